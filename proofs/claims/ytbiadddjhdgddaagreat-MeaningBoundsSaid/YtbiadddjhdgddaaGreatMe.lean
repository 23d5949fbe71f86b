/- The abstract machine, part 5: an interpreter that is proved sound against the model for every tape. No conditions of its own: each theorem bears its own. -/
import Derived.Test.YtbiadddjhdgddaaGreatMd
import Derived.Shelf.Strings.Shaped
set_option linter.unusedSimpArgs false
set_option linter.unusedVariables false
/- A recursion: the call within, known by the hypothesis of the induction. -/
namespace Go.AM
noncomputable section
variable {P : Program} {K : Known}

/-- what a level sees: its own scope (a, with its maps an and al), and what all levels share -/
structure Tmpl where
  x0 : Value
  sp : Option Nat
  x2 : Value
  a : Nat
  an : Nat
  al : Nat
  eS : TypeId
  up : Value
  on : AObj
  ol : AObj
  nx : Nat
  fx : List (Nat × AObj)
  px : List (Nat × AObj)
  ans : Ans
  wid : Nat
  paths : List (List Nat)

def Tmpl.scope (R : Tmpl) : AObj := .blk ⟨T.ofList [.map (some R.an), R.up, .map (some R.al)] 0 .leaf, 3, R.eS, none, 0⟩
def Tmpl.args (R : Tmpl) : List Value := [R.x0, .pointer (some ⟨R.a, 0, R.sp⟩), R.x2]
def Tmpl.pre (R : Tmpl) : List (Nat × AObj) := (R.a, R.scope) :: (R.an, R.on) :: (R.al, R.ol) :: R.fx
def Tmpl.post (R : Tmpl) : List (Nat × AObj) := (R.a, R.scope) :: (R.an, R.on) :: (R.al, R.ol) :: R.px

def emptyO : AObj → Bool
  | .map [] _ => true
  | .pmap [] _ => true
  | _ => false
def refOf : Value → Option Nat
  | .pointer (some a) => some a.block
  | .map (some b) => some b
  | .slice (some a) _ _ => some a.block
  | _ => none
def nthE : List (Value × Value) → Nat → Option Value
  | [], _ => none
  | (_, v) :: _, 0 => some v
  | _ :: l, i + 1 => nthE l i
/-- where the i-th part of an object points -/
def nxt (o : AObj) (i : Nat) : Option Nat :=
  match o with
  | .blk ⟨c, n, _, _, st⟩ => bif Nat.blt st 2 && Nat.blt i n then (match c.get i with | some v => refOf v | none => none) else none
  | .map es _ => match nthE es i with | some v => refOf v | none => none
  | _ => none
def follow (h : T AObj) : Nat → List Nat → Option Nat
  | p, [] => some p
  | p, i :: l => match h.get p with
    | some o => match nxt o i with
      | some q => follow h q l
      | none => none
    | none => none
def reaches (h : T AObj) (wid : Nat) (i : Nat) : List (List Nat) → Bool
  | [] => false
  | l :: ls => (match follow h wid l with | some q => Nat.beq i q | none => false) || reaches h wid i ls
def findO (i : Nat) : List (Nat × AObj) → Option AObj
  | [] => none
  | (j, o) :: l => bif Nat.beq i j then some o else findO i l
/-- what is written is the same as before, or can be reached -/
def chgOk (h : T AObj) (wid : Nat) (paths : List (List Nat)) (fx : List (Nat × AObj)) : List (Nat × AObj) → Bool
  | [] => true
  | (i, o) :: l => ((match findO i fx with | some o' => eqO o' o | none => false) || reaches h wid i paths) && chgOk h wid paths fx l
def eqOpt1 (x : Option AObj) (o : AObj) : Bool := match x with
  | some o' => eqO o' o
  | none => false

def recK (R : Tmpl) (d : Nat → Nat) : List Value → S → Option KRes := fun args s =>
  match args with
  | [y0, .pointer (some ⟨a', 0, sp'⟩), y2] => match s.h.get a' with
    | some (.blk ⟨c, 3, e, none, 0⟩) => match c.get 0, c.get 1, c.get 2 with
      | some (.map (some n')), some u', some (.map (some l')) =>
        bif sameV 60 R.x0 y0 && sameV 60 R.x2 y2 && sameV 60 R.up u' && Nat.beq e R.eS && eqOpt1 (s.h.get n') R.on && eqOpt1 (s.h.get l') R.ol && Nat.beq s.lo 0 &&
            !hasId a' R.fx && !hasId n' R.fx && !hasId l' R.fx && !Nat.beq a' n' && !Nat.beq a' l' && !Nat.beq n' l' && allIn s.h (mapL (shV d) R.fx) &&
            crossOk ((a', R.scope) :: (n', R.on) :: (l', R.ol) :: R.fx) s.h s.nx 0 && chgOk s.h R.wid R.paths R.fx R.px then
          some (R.ans.res ⟨ofL (mapL (shV d) R.px) s.h, s.nx, 0⟩) else none
      | _, _, _ => none
    | _ => none
  | _ => none

def subIds (a b : List (Nat × AObj)) : Bool := match a with
  | [] => true
  | (i, _) :: l => hasId i b && subIds l b
def nodupIds : List (Nat × AObj) → Bool
  | [] => true
  | (i, _) :: l => !hasId i l && nodupIds l
def parsIn (fx : List (Nat × AObj)) : List (Nat × AObj) → Bool
  | [] => true
  | (_, o) :: l => (match o with | .blk ⟨_, _, _, some z, _⟩ => hasId z fx | _ => true) && parsIn fx l
/-- the same row over the same one -/
def psEq : AObj → AObj → Bool
  | .blk ⟨_, _, _, p, st⟩, .blk ⟨_, _, _, p', st'⟩ => eqON p p' && Nat.beq st st'
  | .map _ _, .map _ _ => true
  | .pmap _ _, .pmap _ _ => true
  | _, _ => false
def samePS (fx : List (Nat × AObj)) : List (Nat × AObj) → Bool
  | [] => true
  | (i, o) :: l => (match findO i fx with | some o' => psEq o' o | none => false) && samePS fx l
def Tmpl.fixed (R : Tmpl) : Nat → Bool := fun i => Nat.blt i R.nx && !Nat.beq i R.a && !Nat.beq i R.an && !Nat.beq i R.al
/-- what is asked of a template -/
def Tmpl.ok (R : Tmpl) (q : Nat → Bool) : Bool :=
  okL R.fixed q R.nx R.fx && okL R.fixed q R.nx R.px && subIds R.fx R.px && subIds R.px R.fx && nodupIds R.fx && nodupIds R.px && idsV R.fixed 60 R.x0 && idsV R.fixed 60 R.x2 && idsV R.fixed 60 R.up && idsA R.fixed R.ans && emptyO R.on && emptyO R.ol &&
  Nat.blt R.a R.nx && Nat.blt R.an R.nx && Nat.blt R.al R.nx && !Nat.beq R.a R.an && !Nat.beq R.a R.al && !Nat.beq R.an R.al && !hasId R.a R.fx && !hasId R.an R.fx && !hasId R.al R.fx &&
  (match R.x0 with | .pointer (some b) => Nat.beq b.block R.wid | _ => false) && parsIn R.fx R.fx && samePS R.fx R.px

theorem refOf_ne {ι : Inj} {v x : Value} {q : Nat} (h : VRel ι v x) (hq : refOf v = some q) : ι q ≠ none := by
  cases h <;> simp [refOf] at hq <;> (subst hq; simp_all)
theorem nthE_ne {ι : Inj} : ∀ {es : List (Value × Value)} {lst : List MapEntry} {i : Nat} {v : Value}, EsRel ι es lst → nthE es i = some v → ∃ x, VRel ι v x
  | _, _, _, _, .nil, h => by simp [nthE] at h
  | _, _, 0, _, .cons a b c, h => by simp only [nthE, Option.some.injEq] at h; subst h; exact ⟨_, b⟩
  | _, _, i + 1, _, .cons a b c, h => nthE_ne c (by simpa [nthE] using h)
theorem nxt_ne {ι : Inj} {l : Loc} {o : AObj} {o' : Obj} {i z : Nat} (h : ORel P ι l o o') (hz : nxt o i = some z) : ι z ≠ none := by
  unfold nxt at hz
  split at hz
  · rename_i c n e p st
    cases hc : Nat.blt st 2 && Nat.blt i n with
    | false => rw [hc] at hz; cases hz
    | true =>
      rw [hc] at hz; simp only [cond_true] at hz
      simp only [Bool.and_eq_true, Nat.blt_eq] at hc
      cases hg : c.get i with
      | none => simp [hg] at hz
      | some v =>
        simp only [hg] at hz
        cases h with
        | dead _ hd => omega
        | blk a b c' d =>
          obtain ⟨x, _, hx⟩ := c' i v hg hc.2
          exact refOf_ne hx hz
  · rename_i es clk
    cases hg : nthE es i with
    | none => simp [hg] at hz
    | some v =>
      simp only [hg] at hz
      cases h with
      | map a b c d e =>
        obtain ⟨x, hx⟩ := nthE_ne b hg
        exact refOf_ne hx hz
  · cases hz
theorem follow_ne {ι : Inj} {s : S} {w : World} (hS : SRel P ι s w) : ∀ {l : List Nat} {p z : Nat}, ι p ≠ none → follow s.h p l = some z → ι z ≠ none
  | [], p, z, hp, h => by simp only [follow, Option.some.injEq] at h; subst h; exact hp
  | i :: l, p, z, hp, h => by
    simp only [follow] at h
    cases hg : s.h.get p with
    | none => simp [hg] at h
    | some o =>
      simp only [hg] at h
      cases hn : nxt o i with
      | none => simp [hn] at h
      | some y =>
        simp only [hn] at h
        obtain ⟨lp, hlp⟩ := Option.ne_none_iff_exists'.1 hp
        obtain ⟨o', _, r⟩ := hS.obj p lp o hlp hg
        exact follow_ne hS (nxt_ne r hn) h
theorem reaches_ne {ι : Inj} {s : S} {w : World} (hS : SRel P ι s w) {wid i : Nat} (hw : ι wid ≠ none) : ∀ {ls : List (List Nat)}, reaches s.h wid i ls = true → ι i ≠ none
  | [], h => by cases h
  | l :: ls, h => by
    simp only [reaches, Bool.or_eq_true] at h
    rcases h with h | h
    · cases hf : follow s.h wid l with
      | none => simp [hf] at h
      | some z =>
        simp only [hf] at h
        have := Nat.eq_of_beq_eq_true h; subst this
        exact follow_ne hS hw hf
    · exact reaches_ne hS hw h
theorem findO_spec {i : Nat} {o : AObj} : ∀ {l : List (Nat × AObj)}, findO i l = some o → (i, o) ∈ l
  | [], h => by cases h
  | (j, o1) :: l, h => by
    simp only [findO] at h
    cases hb : Nat.beq i j with
    | true =>
      rw [hb] at h; simp only [cond_true, Option.some.injEq] at h; subst h
      have := Nat.eq_of_beq_eq_true hb; subst this; simp
    | false => rw [hb] at h; exact List.mem_cons_of_mem _ (findO_spec h)
theorem chgOk_spec {ι : Inj} {s : S} {w : World} (hS : SRel P ι s w) {wid : Nat} (hw : ι wid ≠ none) {paths : List (List Nat)} {fx : List (Nat × AObj)} : ∀ {px : List (Nat × AObj)}, chgOk s.h wid paths fx px = true → ∀ x ∈ px, x ∈ fx ∨ ι x.1 ≠ none
  | [], _, x, hx => by simp at hx
  | (i, o) :: l, h, x, hx => by
    simp only [chgOk, Bool.and_eq_true, Bool.or_eq_true] at h
    rcases List.mem_cons.1 hx with rfl | hx
    · rcases h.1 with h1 | h1
      · cases hf : findO i fx with
        | none => simp [hf] at h1
        | some o' =>
          simp only [hf] at h1
          have := eqO_eq _ _ h1; subst this
          exact .inl (findO_spec hf)
      · exact .inr (reaches_ne hS hw h1)
    · exact chgOk_spec hS hw h.2 x hx
theorem eqOpt1_spec {x : Option AObj} {o : AObj} (h : eqOpt1 x o = true) : x = some o := by
  cases x with
  | none => cases h
  | some o' => simp only [eqOpt1] at h; rw [eqO_eq _ _ h]
theorem emptyO_rel {o : AObj} (h : emptyO o = true) : (∀ f, mapO f o = o) ∧ ¬ Dead o ∧ NotHole o ∧ (∀ z, ¬ Par o z) ∧ (∀ b, o ≠ .blk b) ∧ ∀ (ι ι' : Inj) (l : Loc) (o' : Obj), ORel P ι l o o' → ORel P ι' l o o' := by
  cases o with
  | map es c =>
    cases es with
    | cons _ _ => simp [emptyO] at h
    | nil =>
      refine ⟨fun _ => rfl, by simp [Dead], trivial, by intro z; simp [Par], by intro b; simp, ?_⟩
      intro ι ι' l o' r
      cases r with
      | map a b c d e => cases b; exact .map a .nil .nil d e
  | pmap es c =>
    cases es with
    | cons _ _ => simp [emptyO] at h
    | nil =>
      refine ⟨fun _ => rfl, by simp [Dead], trivial, by intro z; simp [Par], by intro b; simp, ?_⟩
      intro ι ι' l o' r
      cases r with
      | pmap a b c d e f => cases b; exact .pmap a .nil c d e f
  | _ => simp [emptyO] at h
theorem nodup_get : ∀ {l : List (Nat × AObj)} {t : T AObj}, nodupIds l = true → ∀ {i : Nat} {o : AObj}, (i, o) ∈ l → (ofL l t).get i = some o
  | (j, o1) :: l, t, hn, i, o, h => by
    simp only [nodupIds, Bool.and_eq_true, Bool.not_eq_true'] at hn
    rcases List.mem_cons.1 h with e | h
    · obtain ⟨rfl, rfl⟩ := Prod.mk.inj e
      show (ofL l (t.set i o)).get i = some o
      rcases ofL_get l (t.set i o) i with ⟨h1, _⟩ | ⟨_, h2⟩
      · rw [hn.1] at h1; cases h1
      · rw [h2, T.get_set, if_pos rfl]
    · exact nodup_get hn.2 h
  | [], _, _, _, _, h => by simp at h
theorem subIds_spec {b : List (Nat × AObj)} : ∀ {a : List (Nat × AObj)}, subIds a b = true → ∀ i, hasId i a = true → hasId i b = true
  | [], _, i, h => by cases h
  | (j, o) :: l, hs, i, h => by
    simp only [subIds, Bool.and_eq_true] at hs
    simp only [hasId, Bool.or_eq_true] at h
    rcases h with h | h
    · have := Nat.eq_of_beq_eq_true h; subst this; exact hs.1
    · exact subIds_spec hs.2 i h

theorem parsIn_spec {fx : List (Nat × AObj)} : ∀ {l : List (Nat × AObj)}, parsIn fx l = true → ∀ x ∈ l, ∀ z, Par x.2 z → hasId z fx = true
  | [], _, x, hx => by simp at hx
  | (i, o) :: l, h, x, hx => by
    simp only [parsIn, Bool.and_eq_true] at h
    rcases List.mem_cons.1 hx with rfl | hx
    · intro z hz
      cases o with
      | blk b => obtain ⟨c, n, e, p, st⟩ := b; simp only [Par] at hz; subst hz; exact h.1
      | _ => simp [Par] at hz
    · exact parsIn_spec h.2 x hx
theorem psEq_spec {o o' : AObj} (h : psEq o o' = true) : (∀ z, Par o z ↔ Par o' z) ∧ (∀ b, o = .blk b → ∃ b', o' = .blk b' ∧ b'.st = b.st) := by
  unfold psEq at h
  split at h
  · simp only [Bool.and_eq_true, Nat.beq_eq] at h
    have h1 := eqON_eq h.1
    subst h1
    refine ⟨fun z => Iff.rfl, fun b hb => ?_⟩
    cases hb
    exact ⟨_, rfl, h.2.symm⟩
  · exact ⟨fun z => by simp [Par], by intro b hb; cases hb⟩
  · exact ⟨fun z => by simp [Par], by intro b hb; cases hb⟩
  · cases h
theorem samePS_spec {fx : List (Nat × AObj)} : ∀ {l : List (Nat × AObj)}, samePS fx l = true → ∀ x ∈ l, ∃ o', (x.1, o') ∈ fx ∧ psEq o' x.2 = true
  | [], _, x, hx => by simp at hx
  | (i, o) :: l, h, x, hx => by
    simp only [samePS, Bool.and_eq_true] at h
    rcases List.mem_cons.1 hx with rfl | hx
    · cases hf : findO i fx with
      | none => simp [hf] at h
      | some o' => simp only [hf] at h; exact ⟨o', findO_spec hf, h.1⟩
    · exact samePS_spec h.2 x hx

end
end Go.AM
/- A recursion: the call within stands as the hypothesis says. -/
namespace Go.AM
noncomputable section
variable {P : Program} {K : Known}

theorem subV_ids {p : Nat → Bool} {n : Nat} {σ : Nat → Option Nat} {v : Value} (h : idsV p n v = true) : subV σ v = v := by
  cases n with
  | zero => cases h
  | succ n =>
    cases v with
    | chan c => simp [idsV] at h
    | _ => rfl

theorem pre3_get {a b c : Nat} {oa ob oc : AObj} {l : List (Nat × AObj)} {i : Nat} {o : AObj} (h : (ofL ((a, oa) :: (b, ob) :: (c, oc) :: l) .leaf).get i = some o) :
    (hasId i l = false ∧ ((i = c ∧ o = oc) ∨ (i ≠ c ∧ i = b ∧ o = ob) ∨ (i ≠ c ∧ i ≠ b ∧ i = a ∧ o = oa))) ∨ (hasId i l = true ∧ (ofL l .leaf).get i = some o) := by
  have e : (ofL ((a, oa) :: (b, ob) :: (c, oc) :: l) .leaf) = ofL l ((((T.leaf : T AObj).set a oa).set b ob).set c oc) := rfl
  rw [e] at h
  rcases ofL_get l ((((T.leaf : T AObj).set a oa).set b ob).set c oc) i with ⟨h1, _⟩ | ⟨h1, h2⟩
  · rw [ofL_same l _ .leaf i h1] at h
    exact .inr ⟨h1, h⟩
  · rw [h2, T.get_set, T.get_set, T.get_set] at h
    refine .inl ⟨h1, ?_⟩
    by_cases e1 : i = c
    · rw [if_pos e1] at h; exact .inl ⟨e1, by cases h; rfl⟩
    · rw [if_neg e1] at h
      by_cases e2 : i = b
      · rw [if_pos e2] at h; exact .inr (.inl ⟨e1, e2, by cases h; rfl⟩)
      · rw [if_neg e2] at h
        by_cases e3 : i = a
        · rw [if_pos e3] at h; exact .inr (.inr ⟨e1, e2, e3, by cases h; rfl⟩)
        · rw [if_neg e3] at h; cases h
theorem pre3_a {a b c : Nat} {oa ob oc : AObj} {l : List (Nat × AObj)} (h : hasId a l = false) (h1 : a ≠ b) (h2 : a ≠ c) : (ofL ((a, oa) :: (b, ob) :: (c, oc) :: l) .leaf).get a = some oa := by
  show (ofL l ((((T.leaf : T AObj).set a oa).set b ob).set c oc)).get a = some oa
  rcases ofL_get l ((((T.leaf : T AObj).set a oa).set b ob).set c oc) a with ⟨h1, _⟩ | ⟨_, e⟩
  · rw [h] at h1; cases h1
  · rw [e, T.get_set, T.get_set, T.get_set, if_neg h2, if_neg h1, if_pos rfl]
theorem pre3_b {a b c : Nat} {oa ob oc : AObj} {l : List (Nat × AObj)} (h : hasId b l = false) (h2 : b ≠ c) : (ofL ((a, oa) :: (b, ob) :: (c, oc) :: l) .leaf).get b = some ob := by
  show (ofL l ((((T.leaf : T AObj).set a oa).set b ob).set c oc)).get b = some ob
  rcases ofL_get l ((((T.leaf : T AObj).set a oa).set b ob).set c oc) b with ⟨h1, _⟩ | ⟨_, e⟩
  · rw [h] at h1; cases h1
  · rw [e, T.get_set, T.get_set, T.get_set, if_neg h2, if_pos rfl]
theorem pre3_c {a b c : Nat} {oa ob oc : AObj} {l : List (Nat × AObj)} (h : hasId c l = false) : (ofL ((a, oa) :: (b, ob) :: (c, oc) :: l) .leaf).get c = some oc := by
  show (ofL l ((((T.leaf : T AObj).set a oa).set b ob).set c oc)).get c = some oc
  rcases ofL_get l ((((T.leaf : T AObj).set a oa).set b ob).set c oc) c with ⟨h1, _⟩ | ⟨_, e⟩
  · rw [h] at h1; cases h1
  · rw [e, T.get_set, T.get_set, T.get_set, if_pos rfl]

/-- a template, in the open -/
structure TOk (R : Tmpl) (q : Nat → Bool) : Prop where
  fx : okL R.fixed q R.nx R.fx = true
  px : okL R.fixed q R.nx R.px = true
  fp : ∀ i, hasId i R.fx = true → hasId i R.px = true
  pf : ∀ i, hasId i R.px = true → hasId i R.fx = true
  nf : nodupIds R.fx = true
  np : nodupIds R.px = true
  x0 : idsV R.fixed 60 R.x0 = true
  x2 : idsV R.fixed 60 R.x2 = true
  up : idsV R.fixed 60 R.up = true
  ans : idsA R.fixed R.ans = true
  on : emptyO R.on = true
  ol : emptyO R.ol = true
  a : R.a < R.nx
  an : R.an < R.nx
  al : R.al < R.nx
  n1 : R.a ≠ R.an
  n2 : R.a ≠ R.al
  n3 : R.an ≠ R.al
  f1 : hasId R.a R.fx = false
  f2 : hasId R.an R.fx = false
  f3 : hasId R.al R.fx = false
  wid : ∃ b, R.x0 = .pointer (some b) ∧ b.block = R.wid
  par : parsIn R.fx R.fx = true
  ps : samePS R.fx R.px = true

theorem beqF {a b : Nat} (h : Nat.beq a b = false) : a ≠ b := fun e => by rw [e, Nat.beq_refl] at h; cases h

theorem Tmpl.ok_spec {R : Tmpl} {q : Nat → Bool} (h : R.ok q = true) : TOk R q := by
  simp only [Tmpl.ok, Bool.and_eq_true, Bool.not_eq_true', Nat.blt_eq] at h
  obtain ⟨⟨⟨⟨⟨⟨⟨⟨⟨⟨⟨⟨⟨⟨⟨⟨⟨⟨⟨⟨⟨⟨⟨h1, h2⟩, h3⟩, h4⟩, h5⟩, h6⟩, h7⟩, h8⟩, h9⟩, h10⟩, h11⟩, h12⟩, h13⟩, h14⟩, h15⟩, h16⟩, h17⟩, h18⟩, h19⟩, h20⟩, h21⟩, h22⟩, h23⟩, h24⟩ := h
  refine ⟨h1, h2, subIds_spec h3, subIds_spec h4, h5, h6, h7, h8, h9, h10, h11, h12, h13, h14, h15, beqF h16, beqF h17, beqF h18, h19, h20, h21, ?_, h23, h24⟩
  cases hx : R.x0 with
  | pointer b =>
    cases b with
    | none => simp [hx] at h22
    | some b => simp only [hx] at h22; exact ⟨b, rfl, Nat.eq_of_beq_eq_true h22⟩
  | _ => simp [hx] at h22

theorem fixed_spec {R : Tmpl} {i : Nat} (h : R.fixed i = true) : i < R.nx ∧ i ≠ R.a ∧ i ≠ R.an ∧ i ≠ R.al := by
  simp only [Tmpl.fixed, Bool.and_eq_true, Bool.not_eq_true', Nat.blt_eq] at h
  exact ⟨h.1.1.1, beqF h.1.1.2, beqF h.1.2, beqF h.2⟩

theorem recK_ok {R : Tmpl} {w0 : World} {σ σ1 : Nat → Option Nat} {q : Nat → Bool} {d : Nat → Nat} {f : FuncId} (hR : R.ok q = true)
    (h : ShotOk P (.of w0) f ⟨R.args, R.nx, mapL (subV σ1) R.pre, R.ans, R.nx, mapL (subV σ1) R.post⟩)
    (hd : ∀ i, d i < 1000) (hσ : ∀ i n, q i = true → σ i = some n → σ1 i = some (n + d i)) (hdom : ∀ i, q i = true → ∃ n, σ i = some n) (hbnd : ∀ i n, q i = true → σ i = some n → n < symB i) :
    KOk P (.pins w0 σ) (recK R d) f := by
  have hT := Tmpl.ok_spec hR
  intro cs args s r hF ι w args' hini hS hlo hrel
  unfold recK at hF
  split at hF
  · rename_i y0 a' sp' y2
    split at hF
    · rename_i c e hga
      split at hF
      · rename_i n' u' l' hc0 hc1 hc2
        cases hc : sameV 60 R.x0 y0 && sameV 60 R.x2 y2 && sameV 60 R.up u' && Nat.beq e R.eS && eqOpt1 (s.h.get n') R.on && eqOpt1 (s.h.get l') R.ol && Nat.beq s.lo 0 &&
            !hasId a' R.fx && !hasId n' R.fx && !hasId l' R.fx && !Nat.beq a' n' && !Nat.beq a' l' && !Nat.beq n' l' && allIn s.h (mapL (shV d) R.fx) &&
            crossOk ((a', R.scope) :: (n', R.on) :: (l', R.ol) :: R.fx) s.h s.nx 0 && chgOk s.h R.wid R.paths R.fx R.px with
        | false => rw [hc] at hF; cases hF
        | true =>
          rw [hc] at hF; simp only [cond_true, Option.some.injEq] at hF
          subst hF
          simp only [Bool.and_eq_true, Bool.not_eq_true'] at hc
          obtain ⟨⟨⟨⟨⟨⟨⟨⟨⟨⟨⟨⟨⟨⟨⟨k1, k2⟩, k3⟩, k4⟩, k5⟩, k6⟩, k7⟩, k8⟩, k9⟩, k10⟩, k11⟩, k12⟩, k13⟩, k14⟩, k15⟩, k16⟩ := hc
          have hx0 := sameV_eq _ _ _ k1
          have hx2 := sameV_eq _ _ _ k2
          have hup := sameV_eq _ _ _ k3
          have heS := Nat.eq_of_beq_eq_true k4
          have hgn := eqOpt1_spec k5
          have hgl := eqOpt1_spec k6
          have hlo0 := Nat.eq_of_beq_eq_true k7
          have hne1 := beqF k11
          have hne2 := beqF k12
          have hne3 := beqF k13
          have hAll := allIn_spec k14
          have hpin : ∀ i n, σ i = some n → ∃ l, ι i = some l ∧ l.base = n := fun i n hs => hini.pin i n hs
          subst hx0 hx2 hup heS
          -- what is there
          obtain ⟨z0, z1, z2, hal, r0, r1, r2⟩ : ∃ z0 z1 z2, args'.toList = [z0, z1, z2] ∧ VRel ι R.x0 z0 ∧ VRel ι (.pointer (some ⟨a', 0, sp'⟩)) z1 ∧ VRel ι R.x2 z2 := by
            generalize args'.toList = al at hrel
            cases hrel with
            | cons b0 t0 => cases t0 with
              | cons b1 t1 => cases t1 with
                | cons b2 t2 => cases t2; exact ⟨_, _, _, rfl, b0, b1, b2⟩
          obtain ⟨la, hla, hz1⟩ := r1.ptr_inv
          simp only at hla hz1
          obtain ⟨oa, ga1, ga2⟩ := hS.obj a' la _ hla hga
          obtain ⟨cells, fr, ga3, ga4, ga5, ga6, ga7⟩ : ∃ cells fr, oa = .cells cells R.eS fr ∧ cells.size = la.top ∧ la.base + 3 ≤ la.top ∧ (∀ i v, c.get i = some v → i < 3 → ∃ v', cells[la.base + i]? = some v' ∧ VRel ι v v') ∧ FrOk P R.eS la.top fr := by
            cases ga2 with
            | dead _ hd => omega
            | blk a1 a2 a3 a4 => exact ⟨_, _, rfl, a1, a2, a3, a4⟩
          subst ga3
          obtain ⟨xn, en, hxn⟩ := ga6 0 _ hc0 (by omega)
          obtain ⟨ln, hln, hxn'⟩ := hxn.map_inv
          obtain ⟨xl, el, hxl⟩ := ga6 2 _ hc2 (by omega)
          obtain ⟨ll, hll, hxl'⟩ := hxl.map_inv
          obtain ⟨xu, eu, hxu⟩ := ga6 1 _ hc1 (by omega)
          -- the template's places
          let rr : Nat → Nat := fun i => if i = R.a then a' else if i = R.an then n' else if i = R.al then l' else i
          let ιT : Inj := fun i => if i < R.nx then ι (rr i) else none
          have rra : rr R.a = a' := by simp [rr]
          have rrn : rr R.an = n' := by simp [rr, Ne.symm hT.n1]
          have rrl : rr R.al = l' := by simp [rr, Ne.symm hT.n2, Ne.symm hT.n3]
          have rrf : ∀ i, i ≠ R.a → i ≠ R.an → i ≠ R.al → rr i = i := fun i h1 h2 h3 => by simp [rr, h1, h2, h3]
          have ιTlt : ∀ i, i < R.nx → ιT i = ι (rr i) := fun i hi => if_pos hi
          have ιTfix : ∀ i, R.fixed i = true → ιT i = ι i := by
            intro i hi
            obtain ⟨h1, h2, h3, h4⟩ := fixed_spec hi
            rw [ιTlt i h1, rrf i h2 h3 h4]
          have hpT : ∀ id l, R.fixed id = true → ι id = some l → ιT id = some l := fun id l h1 h2 => by rw [ιTfix id h1]; exact h2
          have hfxg : ∀ i o, (ofL R.fx .leaf).get i = some o → s.h.get i = some (mapO (shV d) o) ∧ i < R.nx ∧ okO R.fixed q o = true ∧ i ≠ R.a ∧ i ≠ R.an ∧ i ≠ R.al := by
            intro i o hg
            obtain ⟨x1, x2, x3⟩ := okL_get hT.fx hg
            refine ⟨?_, x1, x2, fun x => ?_, fun x => ?_, fun x => ?_⟩
            · rcases ofL_get (mapL (shV d) R.fx) .leaf i with ⟨_, o', u2, u3⟩ | ⟨u1, _⟩
              · rw [ofL_map0, hg] at u2
                simp only [mapOpt, Option.some.injEq] at u2; subst u2
                exact hAll _ u3
              · rw [hasId_map, x3] at u1; cases u1
            · rw [x, hT.f1] at x3; cases x3
            · rw [x, hT.f2] at x3; cases x3
            · rw [x, hT.f3] at x3; cases x3
          obtain ⟨on1, on2, on3, on4, on5, on6⟩ := emptyO_rel (P := P) hT.on
          obtain ⟨ol1, ol2, ol3, ol4, ol5, ol6⟩ := emptyO_rel (P := P) hT.ol
          have hfpar : ∀ i o, (ofL R.fx .leaf).get i = some o → ∀ z, Par o z → hasId z R.fx = true := by
            intro i o hg z hz
            rcases ofL_get R.fx .leaf i with ⟨_, o', u2, u3⟩ | ⟨_, u2⟩
            · rw [hg] at u2; cases u2
              exact parsIn_spec hT.par _ u3 z hz
            · rw [hg] at u2; cases u2
          -- inside
          let preA : List (Nat × AObj) := (a', R.scope) :: (n', R.on) :: (l', R.ol) :: R.fx
          have hinA : ∀ i, hasId i preA = true ↔ (i = a' ∨ i = n' ∨ i = l' ∨ hasId i R.fx = true) := by
            intro i
            simp only [preA, hasId, Bool.or_eq_true, Nat.beq_eq]
          have hfxid : ∀ i, hasId i R.fx = true → ∃ o, (ofL R.fx .leaf).get i = some o := by
            intro i hi
            rcases ofL_get R.fx .leaf i with ⟨_, o, u2, _⟩ | ⟨u1, _⟩
            · exact ⟨o, u2⟩
            · rw [hi] at u1; cases u1
          have hlive : ∀ i, hasId i preA = true → ∃ oo, s.h.get i = some oo ∧ ¬ Dead oo ∧ NotHole oo ∧ ∀ z, Par oo z → hasId z R.fx = true := by
            intro i hi
            rcases (hinA i).1 hi with rfl | rfl | rfl | hi
            · exact ⟨_, hga, by simp [Dead], by simp [NotHole], by intro z; simp [Par]⟩
            · exact ⟨_, hgn, on2, on3, fun z hz => absurd hz (on4 z)⟩
            · exact ⟨_, hgl, ol2, ol3, fun z hz => absurd hz (ol4 z)⟩
            · obtain ⟨o, ho⟩ := hfxid i hi
              obtain ⟨x1, _, x3, _⟩ := hfxg i o ho
              obtain ⟨y1, y2, y3⟩ := okO_live x3
              exact ⟨_, x1, by rw [mapO_dead.1]; exact y1, mapO_dead.2.1.2 y2, fun z hz => hfpar i o ho z ((mapO_dead.2.2 z).1 hz)⟩
          have hcross : ∀ j c m e p st, ι j ≠ none → s.h.get j = some (.blk ⟨c, m, e, some p, st⟩) → st < 2 → hasId j preA = hasId p preA := by
            intro j c m e p st hj hg hst
            have hlt : j < s.nx := by
              rcases Nat.lt_or_ge j s.nx with x | x
              · exact x
              · exact absurd (hS.fresh j x) hj
            exact crossOk_spec k15 j (Nat.zero_le _) (by omega) c m e p st hg hst
          have htob : ∀ id o, (ofL R.pre .leaf).get id = some o → id < R.nx ∧ hasId (rr id) preA = true ∧ ∃ oo, s.h.get (rr id) = some oo ∧ ¬ Dead oo ∧ NotHole oo ∧ (∀ z, Par oo z ↔ Par o z) ∧
              (∀ z, Par o z → hasId z R.fx = true) ∧ (NotHole (mapO (subV σ1) o)) ∧ ∀ l o', ORel P ι l oo o' → ORel P ιT l (mapO (subV σ1) o) o' := by
            intro id o hg
            rcases pre3_get hg with ⟨hno, ⟨rfl, rfl⟩ | ⟨_, rfl, rfl⟩ | ⟨_, _, rfl, rfl⟩⟩ | ⟨hid, hg⟩
            · refine ⟨hT.al, by rw [rrl]; exact (hinA _).2 (.inr (.inr (.inl rfl))), _, by rw [rrl]; exact hgl, ol2, ol3, fun z => Iff.rfl, fun z hz => absurd hz (ol4 z), ?_, ?_⟩
              · rw [ol1]; exact ol3
              · intro l o' x; rw [ol1]; exact ol6 _ _ _ _ x
            · refine ⟨hT.an, by rw [rrn]; exact (hinA _).2 (.inr (.inl rfl)), _, by rw [rrn]; exact hgn, on2, on3, fun z => Iff.rfl, fun z hz => absurd hz (on4 z), ?_, ?_⟩
              · rw [on1]; exact on3
              · intro l o' x; rw [on1]; exact on6 _ _ _ _ x
            · refine ⟨hT.a, by rw [rra]; exact (hinA _).2 (.inl rfl), _, by rw [rra]; exact hga, by simp [Dead], by simp [NotHole], by intro z; simp [Tmpl.scope, Par], by intro z; simp [Tmpl.scope, Par], by simp [Tmpl.scope, mapO, NotHole], ?_⟩
              intro l o' x
              cases x with
              | dead _ hd => omega
              | blk a1 a2 a3 a4 =>
                simp only [Tmpl.scope, mapO]
                refine .blk a1 a2 (fun i v hi hn => ?_) a4
                rw [T.get_map _ (i + 1) _ i (Nat.lt_succ_self i), T.get_ofList] at hi
                match i, hn with
                | 0, _ =>
                  simp [subV] at hi; subst hi
                  obtain ⟨v', y1, y2⟩ := a3 0 _ hc0 (by omega)
                  obtain ⟨lz, y3, rfl⟩ := y2.map_inv
                  exact ⟨_, y1, .map (by rw [ιTlt _ hT.an, rrn]; exact y3)⟩
                | 1, _ =>
                  simp at hi; subst hi
                  obtain ⟨v', y1, y2⟩ := a3 1 _ hc1 (by omega)
                  rw [subV_ids hT.up]
                  exact ⟨_, y1, VRel.tr hpT 60 _ _ hT.up y2⟩
                | 2, _ =>
                  simp [subV] at hi; subst hi
                  obtain ⟨v', y1, y2⟩ := a3 2 _ hc2 (by omega)
                  obtain ⟨lz, y3, rfl⟩ := y2.map_inv
                  exact ⟨_, y1, .map (by rw [ιTlt _ hT.al, rrl]; exact y3)⟩
                | i + 3, hn => omega
            · obtain ⟨x1, x2, x3, x4, x5, x6⟩ := hfxg id o hg
              obtain ⟨y1, y2, y3⟩ := okO_live x3
              rw [rrf id x4 x5 x6]
              refine ⟨x2, (hinA _).2 (.inr (.inr (.inr hid))), _, x1, by rw [mapO_dead.1]; exact y1, mapO_dead.2.1.2 y2, fun z => mapO_dead.2.2 z, fun z hz => hfpar id o hg z hz, mapO_dead.2.1.2 y2, ?_⟩
              intro l o' x
              exact ORel.chg hpT (fun v x ho hv => VRel.lit hd hσ hdom hpin hpT ho hv) x3 x
          have hinj : ∀ i j oi oj, (ofL R.pre .leaf).get i = some oi → (ofL R.pre .leaf).get j = some oj → i ≠ j → rr i ≠ rr j := by
            intro i j oi oj gi gj hij
            have key : ∀ i oi, (ofL R.pre .leaf).get i = some oi → (i = R.al ∧ rr i = l') ∨ (i = R.an ∧ rr i = n') ∨ (i = R.a ∧ rr i = a') ∨ (rr i = i ∧ hasId i R.fx = true) := by
              intro i oi gi
              rcases pre3_get gi with ⟨_, ⟨rfl, _⟩ | ⟨_, rfl, _⟩ | ⟨_, _, rfl, _⟩⟩ | ⟨hid, hg⟩
              · exact .inl ⟨rfl, rrl⟩
              · exact .inr (.inl ⟨rfl, rrn⟩)
              · exact .inr (.inr (.inl ⟨rfl, rra⟩))
              · obtain ⟨_, _, _, x4, x5, x6⟩ := hfxg i oi hg
                exact .inr (.inr (.inr ⟨rrf i x4 x5 x6, hid⟩))
            have ne : ∀ {x y : Nat}, hasId x R.fx = false → hasId y R.fx = true → x ≠ y := fun h1 h2 e => by rw [e, h2] at h1; cases h1
            rcases key i oi gi with ⟨a1, a2⟩ | ⟨a1, a2⟩ | ⟨a1, a2⟩ | ⟨a1, a2⟩ <;> rcases key j oj gj with ⟨b1, b2⟩ | ⟨b1, b2⟩ | ⟨b1, b2⟩ | ⟨b1, b2⟩
            · exact absurd (a1.trans b1.symm) hij
            · rw [a2, b2]; exact Ne.symm hne3
            · rw [a2, b2]; exact Ne.symm hne2
            · rw [a2, b1]; exact ne k10 b2
            · rw [a2, b2]; exact hne3
            · exact absurd (a1.trans b1.symm) hij
            · rw [a2, b2]; exact Ne.symm hne1
            · rw [a2, b1]; exact ne k9 b2
            · rw [a2, b2]; exact hne2
            · rw [a2, b2]; exact hne1
            · exact absurd (a1.trans b1.symm) hij
            · rw [a2, b1]; exact ne k8 b2
            · rw [a1, b2]; exact Ne.symm (ne k10 a2)
            · rw [a1, b2]; exact Ne.symm (ne k9 a2)
            · rw [a1, b2]; exact Ne.symm (ne k8 a2)
            · rw [a1, b1]; exact hij
          have hrfix : ∀ id o, (ofL R.pre .leaf).get id = some o → hasId (rr id) R.fx = true → rr id = id := by
            intro id o hg hf
            rcases pre3_get hg with ⟨_, ⟨rfl, _⟩ | ⟨_, rfl, _⟩ | ⟨_, _, rfl, _⟩⟩ | ⟨hid, hg'⟩
            · rw [rrl, k10] at hf; cases hf
            · rw [rrn, k9] at hf; cases hf
            · rw [rra, k8] at hf; cases hf
            · obtain ⟨_, _, _, x4, x5, x6⟩ := hfxg id o hg'
              exact rrf id x4 x5 x6
          have hTg : ∀ id o, (ofL (mapL (subV σ1) R.pre) .leaf).get id = some o → ∃ o0, (ofL R.pre .leaf).get id = some o0 ∧ o = mapO (subV σ1) o0 := by
            intro id o hg
            rw [ofL_map0] at hg
            exact mapOpt_some hg
          have hST : SRel P ιT ⟨ofL (mapL (subV σ1) R.pre) .leaf, R.nx, 0⟩ w := by
            refine ⟨?_, ?_, ?_, ?_, ?_⟩
            · intro id l o hi hg
              obtain ⟨o0, g0, rfl⟩ := hTg id o hg
              obtain ⟨x1, _, oo, x2, _, _, _, _, _, x3⟩ := htob id o0 g0
              rw [ιTlt id x1] at hi
              obtain ⟨o', y1, y2⟩ := hS.obj _ l _ hi x2
              exact ⟨o', y1, x3 l o' y2⟩
            · intro id hi; exact if_neg (by show ¬ id < R.nx; exact Nat.not_lt.2 hi)
            · intro id l hi
              have : id < R.nx := by
                by_cases hlt : id < R.nx
                · exact hlt
                · rw [show ιT id = none from if_neg hlt] at hi; cases hi
              rw [ιTlt id this] at hi
              exact hS.bound _ _ hi
            · intro id1 id2 l1 l2 o1 o2 hne' i1 i2 hbl g1 g2
              obtain ⟨p1, e1, rfl⟩ := hTg id1 o1 g1
              obtain ⟨p2, e2, rfl⟩ := hTg id2 o2 g2
              obtain ⟨x1, _, oo1, x2, x3, _, x5, x6, _, _⟩ := htob id1 p1 e1
              obtain ⟨y1, _, oo2, y2, y3, _, y5, y6, _, _⟩ := htob id2 p2 e2
              rw [ιTlt _ x1] at i1
              rw [ιTlt _ y1] at i2
              rcases hS.alias _ _ l1 l2 _ _ (hinj _ _ _ _ e1 e2 hne') i1 i2 hbl x2 y2 with z | z | z | z
              · exact absurd z x3
              · exact absurd z y3
              · have hz := (x5 _).1 z
                have hf := x6 _ hz
                rw [hrfix id2 p2 e2 hf] at hz
                exact .inr (.inr (.inl ((mapO_dead.2.2 _).2 hz)))
              · have hz := (y5 _).1 z
                have hf := y6 _ hz
                rw [hrfix id1 p1 e1 hf] at hz
                exact .inr (.inr (.inr ((mapO_dead.2.2 _).2 hz)))
            · intro id o z hg hi hdd hp
              obtain ⟨p1, e1, rfl⟩ := hTg id o hg
              obtain ⟨x1, _, oo, x2, x3, _, x5, x6, _, _⟩ := htob id p1 e1
              have hpz := (mapO_dead.2.2 z).1 hp
              obtain ⟨l0, hl0⟩ := Option.ne_none_iff_exists'.1 hi
              rw [ιTlt id x1] at hl0
              obtain ⟨y1, y2⟩ := hS.par _ oo z x2 (by rw [hl0]; simp) x3 ((x5 z).2 hpz)
              obtain ⟨oz, hoz⟩ := hfxid z (x6 z hpz)
              obtain ⟨w1, w2, _, w4, w5, w6⟩ := hfxg z oz hoz
              refine ⟨by rw [ιTlt z w2, rrf z w4 w5 w6]; exact y1, fun o' ho' => ?_⟩
              obtain ⟨q1, r1, rfl⟩ := hTg z o' ho'
              have hq : q1 = oz := by
                have : (ofL R.pre .leaf).get z = some oz := by
                  show (ofL R.fx ((((T.leaf : T AObj).set R.a R.scope).set R.an R.on).set R.al R.ol)).get z = some oz
                  rw [ofL_same R.fx _ .leaf z (x6 z hpz)]; exact hoz
                rw [r1] at this; cases this; rfl
              subst hq
              obtain ⟨b0, z1, z2⟩ := y2 _ w1
              cases q1 with
              | blk bb => obtain ⟨c1, n1, e1', p1', s1⟩ := bb; simp only [mapO] at z1 ⊢; cases z1; exact ⟨_, rfl, z2⟩
              | _ => simp [mapO] at z1
          have hownT : ∀ b, Owned ιT ⟨ofL (mapL (subV σ1) R.pre) .leaf, R.nx, 0⟩ b → ∃ id l oo, hasId id preA = true ∧ ι id = some l ∧ l.blk = b ∧ s.h.get id = some oo ∧ NotHole oo := by
            rintro b ⟨id, l, o, a1, a2, a3, a4⟩
            obtain ⟨o0, g0, rfl⟩ := hTg id o a3
            obtain ⟨x1, x0, oo, x2, x3, x4, _, _, _, _⟩ := htob id o0 g0
            rw [ιTlt _ x1] at a1
            exact ⟨_, l, oo, x0, a1, a2, x2, x4⟩
          have hiniT : Ini (.of w0) ιT ⟨ofL (mapL (subV σ1) R.pre) .leaf, R.nx, 0⟩ w :=
            ⟨hini.size, hini.same, fun b hb ho => hini.own b hb (by
              obtain ⟨id, l, oo, _, x1, x2, x3, x4⟩ := hownT b ho
              exact ⟨id, l, oo, x1, x2, x3, x4⟩), hini.out, hini.os, hini.tape, fun i v hv => by cases hv⟩
          have hrelT : VRelL ιT R.args args'.toList := by
            rw [hal]
            refine .cons (VRel.tr hpT 60 _ _ hT.x0 r0) (.cons ?_ (.cons (VRel.tr hpT 60 _ _ hT.x2 r2) .nil))
            rw [hz1]
            exact VRel.ptr (b := R.a) (off := 0) (sp := R.sp) (by rw [ιTlt _ hT.a, rra]; exact hla)
          have hk := h cs ιT w args' hiniT hST hrelT
          simp only [shPre, shPost] at hk
          -- behind the call
          have key : ∀ {ι2 : Inj} {w2 : World} {v v' : Value}, idsV R.fixed 60 v = true → VRel ι2 v v' → SRel P ι2 ⟨ofL (mapL (subV σ1) R.post) .leaf, R.nx, 0⟩ w2 →
              Fm R.nx ιT ⟨ofL (mapL (subV σ1) R.pre) .leaf, R.nx, 0⟩ w ι2 ⟨ofL (mapL (subV σ1) R.post) .leaf, R.nx, 0⟩ w2 →
              VRel ι v v' ∧ SRel P ι ⟨ofL (mapL (shV d) R.px) s.h, s.nx, 0⟩ w2 ∧ Fm s.nx ι s w ι ⟨ofL (mapL (shV d) R.px) s.h, s.nx, 0⟩ w2 := by
            intro ι2 w2 v v' hv e1 e2 e3
            have hback : ∀ id, id < R.nx → ι2 id = ιT id := by
              intro id hlt
              cases hh : ιT id with
              | some l => rw [e3.ext _ _ hh]
              | none => exact (e3.keep id hlt hh).1
            have hp2 : ∀ id l, R.fixed id = true → ι2 id = some l → ι id = some l := by
              intro id l h1 h2
              rw [← ιTfix id h1, ← hback id (fixed_spec h1).1]; exact h2
            have hpxg : ∀ i, hasId i R.px = true → ∃ o, (ofL R.px .leaf).get i = some o ∧ (ofL (mapL (shV d) R.px) s.h).get i = some (mapO (shV d) o) ∧ okO R.fixed q o = true ∧ i < R.nx ∧ R.fixed i = true := by
              intro i hi
              rcases ofL_get R.px .leaf i with ⟨_, o, u2, _⟩ | ⟨u1, _⟩
              · obtain ⟨x1, x2, _⟩ := okL_get hT.px u2
                obtain ⟨o', ho'⟩ := hfxid i (hT.pf i hi)
                obtain ⟨_, _, _, y4, y5, y6⟩ := hfxg i o' ho'
                refine ⟨o, u2, ?_, x2, x1, ?_⟩
                · rw [ofL_same (mapL (shV d) R.px) s.h .leaf i (by rw [hasId_map]; exact hi), ofL_map0, u2]; rfl
                · simp only [Tmpl.fixed, Bool.and_eq_true, Bool.not_eq_true', Nat.blt_eq]
                  have nb : ∀ {x y : Nat}, x ≠ y → Nat.beq x y = false := fun {x y} hxy => by
                    cases hb : Nat.beq x y with
                    | false => rfl
                    | true => exact absurd (Nat.eq_of_beq_eq_true hb) hxy
                  exact ⟨⟨⟨x1, nb y4⟩, nb y5⟩, nb y6⟩
              · rw [hi] at u1; cases u1
            have hout : ∀ i, hasId i R.px = false → (ofL (mapL (shV d) R.px) s.h).get i = s.h.get i := by
              intro i hi
              rcases ofL_get (mapL (shV d) R.px) s.h i with ⟨u1, _⟩ | ⟨_, u2⟩
              · rw [hasId_map, hi] at u1; cases u1
              · exact u2
            generalize hm : ofL (mapL (shV d) R.px) s.h = hmm at hpxg hout ⊢
            have pf1 : hasId R.a R.px = false := by
              cases hx : hasId R.a R.px with
              | false => rfl
              | true => have := hT.f1; rw [hT.pf _ hx] at this; cases this
            have pf2 : hasId R.an R.px = false := by
              cases hx : hasId R.an R.px with
              | false => rfl
              | true => have := hT.f2; rw [hT.pf _ hx] at this; cases this
            have pf3 : hasId R.al R.px = false := by
              cases hx : hasId R.al R.px with
              | false => rfl
              | true => have := hT.f3; rw [hT.pf _ hx] at this; cases this
            have hpa : (ofL (mapL (subV σ1) R.post) .leaf).get R.a = some (mapO (subV σ1) R.scope) := by
              rw [ofL_map0]; unfold Tmpl.post; rw [pre3_a pf1 hT.n1 hT.n2]; rfl
            have hpn : (ofL (mapL (subV σ1) R.post) .leaf).get R.an = some R.on := by
              rw [ofL_map0]; unfold Tmpl.post; rw [pre3_b pf2 hT.n3]; simp only [mapOpt, on1]
            have hpl : (ofL (mapL (subV σ1) R.post) .leaf).get R.al = some R.ol := by
              rw [ofL_map0]; unfold Tmpl.post; rw [pre3_c pf3]; simp only [mapOpt, ol1]
            have hppx : ∀ i o, (ofL R.px .leaf).get i = some o → hasId i R.px = true → (ofL (mapL (subV σ1) R.post) .leaf).get i = some (mapO (subV σ1) o) := by
              intro i o hg hid
              rw [ofL_map0]
              have : (ofL R.post .leaf).get i = some o := by
                show (ofL R.px ((((T.leaf : T AObj).set R.a R.scope).set R.an R.on).set R.al R.ol)).get i = some o
                rw [ofL_same R.px _ .leaf i hid]; exact hg
              rw [this]; rfl
            have i2a : ι2 R.a = ι a' := by rw [hback _ hT.a, ιTlt _ hT.a, rra]
            have i2n : ι2 R.an = ι n' := by rw [hback _ hT.an, ιTlt _ hT.an, rrn]
            have i2l : ι2 R.al = ι l' := by rw [hback _ hT.al, ιTlt _ hT.al, rrl]
            have apx : ∀ {x : Nat}, hasId x R.fx = false → hasId x R.px = false := by
              intro x hx
              cases hy : hasId x R.px with
              | false => rfl
              | true => rw [hT.pf _ hy] at hx; cases hx
            -- objects of the new state
            have hnew : ∀ i o, hmm.get i = some o → (hasId i preA = true ∧ ¬ Dead o ∧ NotHole o ∧ ∃ oo, s.h.get i = some oo ∧ (∀ z, Par o z ↔ Par oo z) ∧ ∀ b, oo = .blk b → ∃ b', o = .blk b' ∧ b'.st = b.st) ∨ (hasId i preA = false ∧ s.h.get i = some o) := by
              intro i o hg
              cases hia : hasId i preA with
              | false =>
                right
                refine ⟨rfl, ?_⟩
                have hnfx : hasId i R.fx = false := by
                  cases hx : hasId i R.fx with
                  | false => rfl
                  | true => rw [(hinA i).2 (.inr (.inr (.inr hx)))] at hia; cases hia
                rw [← hout i (apx hnfx)]; exact hg
              | true =>
                left
                cases hpx : hasId i R.px with
                | true =>
                  obtain ⟨o0, x1, x2, x3, _⟩ := hpxg i hpx
                  rw [hg] at x2; cases x2
                  obtain ⟨y1, y2, y3⟩ := okO_live x3
                  have hmem : (i, o0) ∈ R.px := by
                    rcases ofL_get R.px .leaf i with ⟨_, o', u2, u3⟩ | ⟨u1, _⟩
                    · rw [x1] at u2; cases u2; exact u3
                    · rw [hpx] at u1; cases u1
                  obtain ⟨of, hof, hpe⟩ := samePS_spec hT.ps _ hmem
                  have hfg := hfxg i of (nodup_get (t := .leaf) hT.nf hof)
                  obtain ⟨s1, s2⟩ := psEq_spec hpe
                  refine ⟨rfl, by rw [mapO_dead.1]; exact y1, mapO_dead.2.1.2 y2, _, hfg.1, fun z => ?_, fun b hb => ?_⟩
                  · rw [mapO_dead.2.2, mapO_dead.2.2]; exact (s1 z).symm
                  · cases of with
                    | blk bb =>
                      obtain ⟨c1, n1, e1', p1', st1⟩ := bb
                      simp only [mapO] at hb; cases hb
                      obtain ⟨b', hb', hst⟩ := s2 _ rfl
                      simp only at hb'; subst hb'
                      obtain ⟨c2, n2, e2', p2', st2⟩ := b'
                      exact ⟨_, rfl, hst⟩
                    | _ => simp [mapO] at hb
                | false =>
                  rw [hout i hpx] at hg
                  obtain ⟨oo, x1, x2, x3, _⟩ := hlive i hia
                  rw [hg] at x1; cases x1
                  exact ⟨rfl, x2, x3, _, hg, fun z => Iff.rfl, fun b hb => ⟨b, hb, rfl⟩⟩
            refine ⟨VRel.tr hp2 60 _ _ hv e1, ⟨?_, hS.fresh, fun id l a => Nat.lt_of_lt_of_le (hS.bound id l a) e3.size, ?_, ?_⟩, ?_⟩
            · intro id l o hi hg
              cases hpx : hasId id R.px with
              | true =>
                obtain ⟨o0, x1, x2, x3, x4, x5⟩ := hpxg id hpx
                rw [hg] at x2; cases x2
                have hi2 : ι2 id = some l := by rw [hback id x4, ιTfix id x5]; exact hi
                obtain ⟨o', y1, y2⟩ := e2.obj id l _ hi2 (hppx id o0 x1 hpx)
                exact ⟨o', y1, ORel.chg hp2 (fun v x ho hv => VRel.symb hd hσ hdom hbnd hpin hp2 ho hv) x3 y2⟩
              | false =>
                rw [hout id hpx] at hg
                cases hia : hasId id preA with
                | true =>
                  rcases (hinA id).1 hia with rfl | rfl | rfl | hx
                  · rw [hga] at hg; cases hg
                    obtain ⟨o', y1, y2⟩ := e2.obj R.a l _ (by rw [i2a]; exact hi) hpa
                    refine ⟨o', y1, ?_⟩
                    simp only [Tmpl.scope, mapO] at y2
                    cases y2 with
                    | dead _ hd' => omega
                    | blk a1 a2 a3 a4 =>
                      refine .blk a1 a2 (fun i v hi' hn => ?_) a4
                      have getm : ∀ i, i < 3 → (T.map (subV σ1) (T.ofList [.map (some R.an), R.up, .map (some R.al)] 0 .leaf)).get i = (match ([.map (some R.an), R.up, .map (some R.al)] : List Value)[i]? with | some x => some (subV σ1 x) | none => none) := by
                        intro i hi3
                        rw [T.get_map _ (i + 1) _ i (Nat.lt_succ_self i), T.get_ofList, if_pos ⟨Nat.zero_le _, by simpa using hi3⟩, Nat.sub_zero]
                        generalize ([.map (some R.an), R.up, .map (some R.al)] : List Value)[i]? = zz
                        cases zz <;> rfl
                      match i, hn with
                      | 0, _ =>
                        rw [hc0] at hi'; cases hi'
                        obtain ⟨x, b1, b2⟩ := a3 0 _ (getm 0 (by omega)) (by omega)
                        have b2' : VRel ι2 (.map (some R.an)) x := b2
                        obtain ⟨lz, b3, rfl⟩ := b2'.map_inv
                        exact ⟨_, b1, .map (by rw [← i2n]; exact b3)⟩
                      | 1, _ =>
                        rw [hc1] at hi'; cases hi'
                        obtain ⟨x, b1, b2⟩ := a3 1 _ (getm 1 (by omega)) (by omega)
                        have b2' : VRel ι2 (subV σ1 R.up) x := b2
                        rw [subV_ids hT.up] at b2'
                        exact ⟨_, b1, VRel.tr hp2 60 _ _ hT.up b2'⟩
                      | 2, _ =>
                        rw [hc2] at hi'; cases hi'
                        obtain ⟨x, b1, b2⟩ := a3 2 _ (getm 2 (by omega)) (by omega)
                        have b2' : VRel ι2 (.map (some R.al)) x := b2
                        obtain ⟨lz, b3, rfl⟩ := b2'.map_inv
                        exact ⟨_, b1, .map (by rw [← i2l]; exact b3)⟩
                      | i + 3, hn => omega
                  · rw [hgn] at hg; cases hg
                    obtain ⟨o', y1, y2⟩ := e2.obj R.an l _ (by rw [i2n]; exact hi) hpn
                    exact ⟨o', y1, on6 _ _ _ _ y2⟩
                  · rw [hgl] at hg; cases hg
                    obtain ⟨o', y1, y2⟩ := e2.obj R.al l _ (by rw [i2l]; exact hi) hpl
                    exact ⟨o', y1, ol6 _ _ _ _ y2⟩
                  · rw [hT.fp id hx] at hpx; cases hpx
                | false =>
                  obtain ⟨o', y1, y2⟩ := hS.obj id l o hi hg
                  by_cases hdd : Dead o
                  · cases o with
                    | blk bb =>
                      obtain ⟨c1, m, e', q', st⟩ := bb
                      have hlt : l.blk < w2.heap.size := Nat.lt_of_lt_of_le (hS.bound _ _ hi) e3.size
                      exact ⟨w2.heap[l.blk], by rw [Array.getElem?_eq_getElem hlt], .dead _ hdd⟩
                    | _ => simp [Dead] at hdd
                  · have hno : ¬ Owned ιT ⟨ofL (mapL (subV σ1) R.pre) .leaf, R.nx, 0⟩ l.blk := by
                      intro ho
                      obtain ⟨id3, l3, o3, b0, b1, b2, b3, b4⟩ := hownT _ ho
                      obtain ⟨oo, c1, c2, c3, c4⟩ := hlive id3 b0
                      rw [b3] at c1; cases c1
                      have hne' : id3 ≠ id := fun e => by rw [e, hia] at b0; cases b0
                      rcases hS.alias id3 id l3 l o3 o hne' b1 hi b2 b3 hg with x | x | x | x
                      · exact c2 x
                      · exact hdd x
                      · rw [(hinA id).2 (.inr (.inr (.inr (c4 _ x))))] at hia; cases hia
                      · cases o with
                        | blk bb =>
                          obtain ⟨c1, m, e', q', st⟩ := bb
                          simp only [Par] at x; subst x
                          have := hcross id c1 m e' id3 st (by rw [hi]; simp) hg (by simp only [Dead] at hdd; omega)
                          rw [hia, b0] at this; cases this
                        | _ => simp [Par] at x
                    exact ⟨o', by rw [e3.heap _ (hS.bound _ _ hi) hno]; exact y1, y2⟩
            · intro id1 id2 l1 l2 o1 o2 hne' i1 i2 hbl g1 g2
              have mixed : ∀ {ia ib : Nat} {la lb : Loc} {ob : AObj}, ι ia = some la → ι ib = some lb → la.blk = lb.blk → hasId ia preA = true → hasId ib preA = false → s.h.get ib = some ob → Dead ob := by
                intro ia ib la lb ob j1 j2 jb ha hb gb
                obtain ⟨oo, c1, c2, c3, c4⟩ := hlive ia ha
                have hne2' : ia ≠ ib := fun e => by rw [e, hb] at ha; cases ha
                rcases hS.alias ia ib la lb oo ob hne2' j1 j2 jb c1 gb with x | x | x | x
                · exact absurd x c2
                · exact x
                · rw [(hinA ib).2 (.inr (.inr (.inr (c4 _ x))))] at hb; cases hb
                · by_cases hdd : Dead ob
                  · exact hdd
                  · cases ob with
                    | blk bb =>
                      obtain ⟨c1', m, e', q', st⟩ := bb
                      simp only [Par] at x; subst x
                      have := hcross ib c1' m e' ia st (by rw [j2]; simp) gb (by simp only [Dead] at hdd; omega)
                      rw [hb, ha] at this; cases this
                    | _ => simp [Par] at x
              rcases hnew id1 o1 g1 with ⟨a1, a2, _, oo1, c1, c4, _⟩ | ⟨a1, a2⟩
              · rcases hnew id2 o2 g2 with ⟨b1, b2, _, oo2, d1, d4, _⟩ | ⟨b1, b2⟩
                · obtain ⟨oo1', c1', c2, _⟩ := hlive id1 a1
                  obtain ⟨oo2', d1', d2, _⟩ := hlive id2 b1
                  rw [c1] at c1'; cases c1'
                  rw [d1] at d1'; cases d1'
                  rcases hS.alias id1 id2 l1 l2 oo1 oo2 hne' i1 i2 hbl c1 d1 with x | x | x | x
                  · exact absurd x c2
                  · exact absurd x d2
                  · exact .inr (.inr (.inl ((c4 _).2 x)))
                  · exact .inr (.inr (.inr ((d4 _).2 x)))
                · exact .inr (.inl (mixed i1 i2 hbl a1 b1 b2))
              · rcases hnew id2 o2 g2 with ⟨b1, _⟩ | ⟨b1, b2⟩
                · exact .inl (mixed i2 i1 hbl.symm b1 a1 a2)
                · exact hS.alias id1 id2 l1 l2 o1 o2 hne' i1 i2 hbl a2 b2
            · intro id o z hg hi hdd hp
              rcases hnew id o hg with ⟨a1, _, _, oo, c1, c4, _⟩ | ⟨a1, a2⟩
              · obtain ⟨oo', c1', c2, _, c5⟩ := hlive id a1
                rw [c1] at c1'; cases c1'
                have hpz := (c4 z).1 hp
                obtain ⟨x1, x2⟩ := hS.par id oo z c1 hi c2 hpz
                refine ⟨x1, fun o' ho' => ?_⟩
                rcases hnew z o' ho' with ⟨_, _, _, oz, d1, _, d5⟩ | ⟨b1, b2⟩
                · obtain ⟨b0, q1, q2⟩ := x2 oz d1
                  obtain ⟨b', r1, r2⟩ := d5 b0 q1
                  exact ⟨b', r1, by rw [r2]; exact q2⟩
                · exact x2 o' b2
              · obtain ⟨x1, x2⟩ := hS.par id o z a2 hi hdd hp
                refine ⟨x1, fun o' ho' => ?_⟩
                have hz : hasId z preA = false := by
                  cases o with
                  | blk bb =>
                    obtain ⟨c1, m, e', q', st⟩ := bb
                    simp only [Par] at hp; subst hp
                    rw [← hcross id c1 m e' z st hi a2 (by simp only [Dead] at hdd; omega)]; exact a1
                  | _ => simp [Par] at hp
                rcases hnew z o' ho' with ⟨b1, _⟩ | ⟨_, b2⟩
                · rw [hz] at b1; cases b1
                · exact x2 o' b2
            · have hwid : ι R.wid ≠ none := by
                obtain ⟨b, hb1, hb2⟩ := hT.wid
                rw [hb1] at r0
                obtain ⟨l0, y1, _⟩ := r0.ptr_inv
                rw [← hb2, y1]; simp
              have hchg := chgOk_spec hS hwid k16
              have hownN : ∀ b, Owned ι ⟨hmm, s.nx, 0⟩ b → Owned ι s b := by
                rintro b ⟨id, l, o, a1, a2, a3, a4⟩
                rcases hnew id o a3 with ⟨b1, _⟩ | ⟨_, b2⟩
                · obtain ⟨oo, c1, c2, c3, _⟩ := hlive id b1
                  exact ⟨id, l, oo, a1, a2, c1, c3⟩
                · exact ⟨id, l, o, a1, a2, b2, a4⟩
              refine ⟨Ext.refl _, ?_, fun id l x y => (by rw [x] at y; cases y), ?_, fun b _ ho => hownN b ho, ?_, ?_, ?_, hlo0.symm, Nat.le_refl _, e3.size, e3.os, e3.out, e3.tape⟩
              · intro id hi hn
                refine ⟨hn, ?_⟩
                show hmm.get id = s.h.get id
                cases hpx : hasId id R.px with
                | false => exact hout id hpx
                | true =>
                  obtain ⟨o0, x1, x2, _⟩ := hpxg id hpx
                  rw [x2]
                  obtain ⟨of, hof⟩ := hfxid id (hT.pf id hpx)
                  obtain ⟨y1, _⟩ := hfxg id of hof
                  rw [y1]
                  have hmem : (id, o0) ∈ R.px := by
                    rcases ofL_get R.px .leaf id with ⟨_, o', u2, u3⟩ | ⟨u1, _⟩
                    · rw [x1] at u2; cases u2; exact u3
                    · rw [hpx] at u1; cases u1
                  rcases hchg _ hmem with z | z
                  · have := nodup_get (t := .leaf) hT.nf z
                    rw [hof] at this; cases this; rfl
                  · exact absurd hn z
              · intro b hb hno
                refine e3.heap b hb (fun ho => hno ?_)
                obtain ⟨id, l, oo, _, x1, x2, x3, x4⟩ := hownT b ho
                exact ⟨id, l, oo, x1, x2, x3, x4⟩
              · intro b hb ho
                exact (hownN b ho.owned).ofL (w0 := w0) hlo0
              · intro id hi hn
                show hmm.get id = none
                cases hpx : hasId id R.px with
                | false => rw [hout id hpx]; exact hn
                | true =>
                  obtain ⟨of, hof⟩ := hfxid id (hT.pf id hpx)
                  obtain ⟨y1, _⟩ := hfxg id of hof
                  rw [y1] at hn; cases hn
              · intro id hi; omega
          cases hans : R.ans with
          | ret v =>
            rw [hans] at hk
            have hia := hT.ans
            rw [hans] at hia
            obtain ⟨ι2, w2, v', e1, e2, e3, e4⟩ := hk
            obtain ⟨y1, y2, y3⟩ := key hia e1 e2 e3
            exact ⟨ι, w2, v', y1, y2, y3, e4⟩
          | pan t v =>
            rw [hans] at hk
            have hia := hT.ans
            rw [hans] at hia
            obtain ⟨ι2, w2, v', e1, e2, e3, e4⟩ := hk
            obtain ⟨y1, y2, y3⟩ := key hia e1 e2 e3
            exact ⟨ι, w2, v', y1, y2, y3, e4⟩
      · cases hF
    · cases hF
  · cases hF

end
end Go.AM
/- A recursion: from a level to the level above, down to the first. -/
namespace Go.AM
noncomputable section
variable {P : Program} {K : Known}

theorem KOk.pins {w0 : World} {σ : Nat → Option Nat} {F : List Value → S → Option KRes} {f : FuncId} (h : KOk P (.of w0) F f) : KOk P (.pins w0 σ) F f :=
  fun cs args s r hF ι w args' hini hS hlo hrel => h cs args s r hF ι w args' ⟨hini.size, hini.same, hini.own, hini.out, hini.os, hini.tape, fun i v hv => by cases hv⟩ hS hlo hrel

def withK (K : Known) (f : FuncId) (F : List Value → S → Option KRes) : Known := fun g => bif Nat.beq g f then some F else K g
theorem KnownOk.withK {K : Known} {w0 : Start} {f : FuncId} {F : List Value → S → Option KRes} (h : KnownOk P K w0) (hF : KOk P w0 F f) : KnownOk P (withK K f F) w0 := by
  intro g G hg
  unfold AM.withK at hg
  cases hb : Nat.beq g f with
  | true =>
    rw [hb] at hg; simp only [cond_true, Option.some.injEq] at hg; subst hg
    have := Nat.eq_of_beq_eq_true hb; subst this; exact hF
  | false => rw [hb] at hg; exact h g G hg
theorem KnownOk.pins {w0 : World} {σ : Nat → Option Nat} (h : KnownOk P K (.of w0)) : KnownOk P K (.pins w0 σ) := fun f F hf => (h f F hf).pins

/-- the level's number, and how many steps there were -/
def lvl (E O k v : Nat) : Nat → Option Nat := fun i => bif Nat.beq i E then some v else bif Nat.beq i O then some (k * v + 1) else none
def isE (E O : Nat) : Nat → Bool := fun i => Nat.beq i E || Nat.beq i O
def more (E O k : Nat) : Nat → Nat := fun i => bif Nat.beq i E then 1 else bif Nat.beq i O then k else 0
def lit (R : Tmpl) (E O k v : Nat) : Shot := ⟨R.args, R.nx, mapL (subV (lvl E O k v)) R.pre, R.ans, R.nx, mapL (subV (lvl E O k v)) R.post⟩
def symS (R : Tmpl) (nxS nxE : Nat) : Shot := ⟨R.args, nxS, R.pre, R.ans, nxE, R.post⟩

/-- the numbers of the symbols, and what is asked of the template -/
def recOk (R : Tmpl) (E O k nxS : Nat) : Bool :=
  R.ok (isE E O) && !Nat.beq E O && Nat.beq (Nat.mod E 2) 0 && Nat.beq (Nat.mod O 2) 1 && Nat.ble R.nx E && Nat.ble R.nx O && Nat.blt E nxS && Nat.blt O nxS && Nat.ble R.nx nxS && Nat.ble k 40

theorem okL_mono {p p' q : Nat → Bool} {nx : Nat} (h : ∀ i, p i = true → p' i = true) : ∀ {l : List (Nat × AObj)}, okL p q nx l = true → okL p' q nx l = true := by
  have hids : ∀ n v, idsV p n v = true → idsV p' n v = true := by
    intro n
    induction n with
    | zero => intro v hv; cases hv
    | succ n ih =>
      intro v hv
      cases v with
      | pointer a => cases a <;> simp_all [idsV]
      | slice a n c => cases a <;> simp_all [idsV]
      | map a => cases a <;> simp_all [idsV]
      | func f xs ys => cases f <;> simp_all [idsV]
      | iface t v => simp_all [idsV]
      | agg xs => simp_all [idsV]
      | tuple xs => simp_all [idsV]
      | chan c => simp [idsV] at hv
      | _ => simp_all [idsV]
  have hokV : ∀ v, okV p q v = true → okV p' q v = true := by
    intro v hv
    cases v with
    | chan c => cases c <;> exact hv
    | _ => simp only [okV] at hv ⊢; exact hids 60 _ hv
  have hT : ∀ t : T Value, T.allV (okV p q) t = true → T.allV (okV p' q) t = true := by
    intro t
    induction t with
    | leaf => intro _; rfl
    | node l v r ih1 ih2 =>
      intro h1
      simp only [T.allV, Bool.and_eq_true] at h1 ⊢
      refine ⟨⟨?_, ih1 h1.1.2⟩, ih2 h1.2⟩
      cases v with
      | none => rfl
      | some x => exact hokV x h1.1.1
  have hEs : ∀ es, okEs p es = true → okEs p' es = true := by
    intro es
    induction es with
    | nil => intro _; rfl
    | cons x l ih =>
      obtain ⟨k, v⟩ := x
      intro h1
      simp only [okEs, Bool.and_eq_true] at h1 ⊢
      exact ⟨⟨hids _ _ h1.1.1, hids _ _ h1.1.2⟩, ih h1.2⟩
  intro l
  induction l with
  | nil => intro _; rfl
  | cons x l ih =>
    obtain ⟨i, o⟩ := x
    intro h1
    simp only [okL, Bool.and_eq_true] at h1 ⊢
    refine ⟨⟨h1.1.1, ?_⟩, ih h1.2⟩
    have ho := h1.1.2
    cases o with
    | blk b =>
      obtain ⟨c, n, e, pp, st⟩ := b
      simp only [okO, Bool.and_eq_true] at ho ⊢
      refine ⟨⟨ho.1.1, hT _ ho.1.2⟩, ?_⟩
      cases pp with
      | none => rfl
      | some z => exact h z ho.2
    | map es c => exact hEs _ ho
    | pmap es c => exact hEs _ ho
    | _ => simp [okO] at ho

theorem idsV_mono {p p' : Nat → Bool} (h : ∀ i, p i = true → p' i = true) : ∀ n v, idsV p n v = true → idsV p' n v = true := by
  intro n
  induction n with
  | zero => intro v hv; cases hv
  | succ n ih =>
    intro v hv
    cases v with
    | pointer a => cases a <;> simp_all [idsV]
    | slice a n c => cases a <;> simp_all [idsV]
    | map a => cases a <;> simp_all [idsV]
    | func f xs ys => cases f <;> simp_all [idsV]
    | iface t v => simp_all [idsV]
    | agg xs => simp_all [idsV]
    | tuple xs => simp_all [idsV]
    | chan c => simp [idsV] at hv
    | _ => simp_all [idsV]

theorem Tmpl.scope_ok {R : Tmpl} {q p : Nat → Bool} (hT : TOk R q) (hp : ∀ i, i < R.nx → p i = true) : okO p q R.scope = true := by
  have hf : ∀ i, R.fixed i = true → p i = true := fun i hi => hp i (fixed_spec hi).1
  have e : T.allV (okV p q) (T.ofList [.map (some R.an), R.up, .map (some R.al)] 0 .leaf) = true := by
    have hup : okV p q R.up = true := by
      have := idsV_mono hf 60 _ hT.up
      cases hu : R.up with
      | chan c => rw [hu] at this; simp [idsV] at this
      | _ => rw [hu] at this; simp only [okV]; exact this
    have h1 : okV p q (.map (some R.an)) = true := by simp only [okV, idsV]; exact hp _ hT.an
    have h2 : okV p q (.map (some R.al)) = true := by simp only [okV, idsV]; exact hp _ hT.al
    have e0 : T.ofList [.map (some R.an), R.up, .map (some R.al)] 0 .leaf = .node (.node .leaf (some R.up) .leaf) (some (.map (some R.an))) (.node .leaf (some (.map (some R.al))) .leaf) := rfl
    rw [e0]
    simp only [T.allV, h1, h2, hup, Bool.and_true, Bool.and_self]
  simp only [Tmpl.scope, okO, Bool.and_eq_true]
  exact ⟨⟨by decide, e⟩, trivial⟩
theorem emptyO_ok {p q : Nat → Bool} {o : AObj} (h : emptyO o = true) : okO p q o = true := by
  cases o with
  | map es c => cases es <;> simp_all [emptyO, okO, okEs]
  | pmap es c => cases es <;> simp_all [emptyO, okO, okEs]
  | _ => simp [emptyO] at h

theorem rec_step {R : Tmpl} {w0 : World} {E O k nxS nxE n v : Nat} {f : FuncId} (hK : KnownOk P K (.of w0)) (hmix : P.follows .mixedOrders = true) (hR : recOk R E O k nxS = true)
    (hrun : shotRun P (withK K f (recK R (more E O k))) n f (symS R nxS nxE) = true) (hv : v < 1999) (h : ShotOk P (.of w0) f (lit R E O k (v + 1))) : ShotOk P (.of w0) f (lit R E O k v) := by
  simp only [recOk, Bool.and_eq_true, Bool.not_eq_true', Nat.beq_eq, Nat.ble_eq, Nat.blt_eq] at hR
  obtain ⟨⟨⟨⟨⟨⟨⟨⟨⟨hR, hEO⟩, hE⟩, hO⟩, hE1⟩, hO1⟩, hE2⟩, hO2⟩, hnx⟩, hk⟩ := hR
  have hT := Tmpl.ok_spec hR
  have hne := beqF hEO
  have bt : ∀ {a b : Nat}, Nat.beq a b = true ↔ a = b := fun {a b} => by rw [Nat.beq_eq]
  have lE : lvl E O k v E = some v := by simp [lvl]
  have lO : lvl E O k v O = some (k * v + 1) := by
    have : Nat.beq O E = false := by
      cases hb : Nat.beq O E with
      | false => rfl
      | true => exact absurd (bt.1 hb).symm hne
    simp [lvl, this]
  have ldom : ∀ i n, lvl E O k v i = some n → (i = E ∧ n = v) ∨ (i = O ∧ n = k * v + 1) := by
    intro i n h
    unfold lvl at h
    cases h1 : Nat.beq i E with
    | true => rw [h1] at h; simp only [cond_true, Option.some.injEq] at h; exact .inl ⟨bt.1 h1, h.symm⟩
    | false =>
      rw [h1] at h; simp only [cond_false] at h
      cases h2 : Nat.beq i O with
      | true => rw [h2] at h; simp only [cond_true, Option.some.injEq] at h; exact .inr ⟨bt.1 h2, h.symm⟩
      | false => rw [h2] at h; cases h
  have hdom : ∀ i, isE E O i = true → ∃ n, lvl E O k v i = some n := by
    intro i hi
    simp only [isE, Bool.or_eq_true] at hi
    rcases hi with hi | hi
    · rw [bt.1 hi]; exact ⟨_, lE⟩
    · rw [bt.1 hi]; exact ⟨_, lO⟩
  have hkv : k * v ≤ 79960 := Nat.le_trans (Nat.mul_le_mul hk (Nat.le_of_lt_succ (Nat.lt_succ_of_lt hv))) (by omega)
  have hbnd : ∀ i n, isE E O i = true → lvl E O k v i = some n → n < symB i := by
    intro i n _ h
    rcases ldom i n h with ⟨rfl, rfl⟩ | ⟨rfl, rfl⟩
    · have : symB i = 1999 := by unfold symB; have e : Nat.mod i 2 = 0 := hE; rw [e]; rfl
      rw [this]; exact hv
    · have : symB i = 90000 := by unfold symB; have e : Nat.mod i 2 = 1 := hO; rw [e]; rfl
      rw [this]; omega
  have hσ : ∀ i n, isE E O i = true → lvl E O k v i = some n → lvl E O k (v + 1) i = some (n + more E O k i) := by
    intro i n _ h
    have hOE : Nat.beq O E = false := by
      cases hb : Nat.beq O E with
      | false => rfl
      | true => exact absurd (bt.1 hb).symm hne
    rcases ldom i n h with ⟨rfl, rfl⟩ | ⟨rfl, rfl⟩
    · simp [lvl, more]
    · simp only [lvl, more, hOE, cond_false, Nat.beq_refl, cond_true, Option.some.injEq]
      rw [Nat.mul_add]; omega
  have hd : ∀ i, more E O k i < 1000 := by
    intro i
    unfold more
    cases Nat.beq i E <;> cases Nat.beq i O <;> simp <;> omega
  have hrec := recK_ok (R := R) (σ := lvl E O k v) (σ1 := lvl E O k (v + 1)) (q := isE E O) (d := more E O k) hR h hd hσ hdom hbnd
  have hrs := run_shot (sh := symS R nxS nxE) (KnownOk.withK (hK.pins (σ := lvl E O k v)) hrec) hmix hrun
  have hfix : ∀ i, R.fixed i = true → Nat.blt i R.nx = true := fun i hi => by rw [Nat.blt_eq]; exact (fixed_spec hi).1
  have hsp : ∀ i, i < R.nx → (fun i => Nat.blt i R.nx) i = true := fun i hi => by simpa using hi
  have hpreL : okL (fun i => Nat.blt i R.nx) (isE E O) R.nx R.pre = true := by
    simp only [Tmpl.pre, okL, Bool.and_eq_true, Nat.blt_eq]
    exact ⟨⟨hT.a, R.scope_ok hT hsp⟩, ⟨hT.an, emptyO_ok hT.on⟩, ⟨hT.al, emptyO_ok hT.ol⟩, okL_mono hfix hT.fx⟩
  have hpostL : okL (fun i => Nat.blt i R.nx) (isE E O) R.nx R.post = true := by
    simp only [Tmpl.post, okL, Bool.and_eq_true, Nat.blt_eq]
    exact ⟨⟨hT.a, R.scope_ok hT hsp⟩, ⟨hT.an, emptyO_ok hT.on⟩, ⟨hT.al, emptyO_ok hT.ol⟩, okL_mono hfix hT.px⟩
  refine ShotOk.lit (q := isE E O) hrs hdom (fun i n h => ?_) hnx hbnd hpreL hpostL ?_ ?_ ?_
  · rcases ldom i n h with ⟨rfl, _⟩ | ⟨rfl, _⟩
    · exact ⟨by simp [isE], hE1, hE2⟩
    · exact ⟨by simp [isE], hO1, hO2⟩
  · simp only [Tmpl.args, List.all_cons, List.all_nil, Bool.and_true, Bool.and_eq_true]
    exact ⟨idsV_mono hfix 60 _ hT.x0, by simp only [idsV]; simpa using hT.a, idsV_mono hfix 60 _ hT.x2⟩
  · have := hT.ans
    cases ha : R.ans with
    | ret v => rw [ha] at this; exact idsV_mono hfix 60 _ this
    | pan t v => rw [ha] at this; exact idsV_mono hfix 60 _ this
  · obtain ⟨b, hb, _⟩ := hT.wid
    exact ⟨b, _, by rw [Tmpl.args, hb]⟩

theorem subV_none (v : Value) : subV (fun _ => none) v = v := by
  cases v with
  | chan c => cases c with
    | none => rfl
    | some m => simp only [subV]; cases symK (symCode m) <;> rfl
  | _ => rfl
theorem mapL_id {f : Value → Value} (h : ∀ x, f x = x) : ∀ l : List (Nat × AObj), mapL f l = l
  | [] => rfl
  | (i, o) :: l => by simp only [mapL, mapO_id h, mapL_id h l]
/-- the last level, which is run with numbers -/
def litB (R : Tmpl) (E O k v nxB : Nat) : Shot := ⟨R.args, R.nx, mapL (subV (lvl E O k v)) R.pre, R.ans, nxB, mapL (subV (lvl E O k v)) R.post⟩
def litOk (R : Tmpl) (E O k v : Nat) : Bool :=
  okL (fun i => Nat.blt i R.nx) (fun _ => false) R.nx (mapL (subV (lvl E O k v)) R.pre) && okL (fun i => Nat.blt i R.nx) (fun _ => false) R.nx (mapL (subV (lvl E O k v)) R.post)
theorem rec_base {R : Tmpl} {w0 : World} {E O k nxS nxB v n : Nat} {f : FuncId} (hK : KnownOk P K (.of w0)) (hmix : P.follows .mixedOrders = true) (hR : recOk R E O k nxS = true)
    (hrun : shotRun P K n f (litB R E O k v nxB) = true) (hok : litOk R E O k v = true) : ShotOk P (.of w0) f (lit R E O k v) := by
  have hs := run_shot hK hmix hrun
  simp only [recOk, Bool.and_eq_true] at hR
  have hT := Tmpl.ok_spec hR.1.1.1.1.1.1.1.1.1
  simp only [litOk, Bool.and_eq_true] at hok
  have hfix : ∀ i, R.fixed i = true → Nat.blt i R.nx = true := fun i hi => by rw [Nat.blt_eq]; exact (fixed_spec hi).1
  have := ShotOk.lit (P := P) (w0 := w0) (σ := fun _ => none) (q := fun _ => false) (nx := R.nx) (nxS := R.nx) (nxE := nxB) hs (fun i h => by cases h) (fun i n h => by cases h) (Nat.le_refl _) (fun i n h => by cases h) hok.1 hok.2
    (by
      simp only [Tmpl.args, List.all_cons, List.all_nil, Bool.and_true, Bool.and_eq_true]
      exact ⟨idsV_mono hfix 60 _ hT.x0, by simp only [idsV]; simpa using hT.a, idsV_mono hfix 60 _ hT.x2⟩)
    (by
      have := hT.ans
      cases ha : R.ans with
      | ret v => rw [ha] at this; exact idsV_mono hfix 60 _ this
      | pan t v => rw [ha] at this; exact idsV_mono hfix 60 _ this)
    (by
      obtain ⟨b, hb, _⟩ := hT.wid
      exact ⟨b, _, by rw [Tmpl.args, hb]⟩)
  rw [mapL_id subV_none, mapL_id subV_none] at this
  exact this

/-- from the last level back to the first -/
theorem rec_all {R : Tmpl} {w0 : World} {E O k nxS nxE nxB n nb : Nat} {f : FuncId} {K1 : Known} (hK1 : KnownOk P K1 (.of w0)) (hK : KnownOk P K (.of w0)) (hmix : P.follows .mixedOrders = true) (hR : recOk R E O k nxS = true)
    (hrun : shotRun P (withK K f (recK R (more E O k))) n f (symS R nxS nxE) = true) (hbase : shotRun P K1 nb f (litB R E O k 1999 nxB) = true) (hok : litOk R E O k 1999 = true) :
    ∀ j, j ≤ 1999 → ShotOk P (.of w0) f (lit R E O k (1999 - j))
  | 0, _ => rec_base hK1 hmix hR hbase hok
  | j + 1, hj => by
    have ih := rec_all hK1 hK hmix hR hrun hbase hok j (by omega)
    refine rec_step hK hmix hR hrun (by omega) ?_
    rw [show 1999 - (j + 1) + 1 = 1999 - j by omega]
    exact ih

end
end Go.AM
/- Functions that are known whole. -/
namespace Go.AM
noncomputable section
variable {P : Program} {w0 : World} {f : FuncId}

def kContains : List Value → S → Option KRes := fun l s => match l with
  | [.string a, .string b] => bif Nat.blt a.size 4294967281 then some (.ret (.bool (Lib.contains a.data.toList b.data.toList)) s) else none
  | _ => none
def kClone : List Value → S → Option KRes := fun l s => match l with
  | [.map (some r)] => match s.h.get r with
    | some (.map es c) => some (.ret (.map (some s.nx)) (s.push (.map es c)))
    | _ => none
  | _ => none
def kAdd : List Value → S → Option KRes := fun l s => match l with
  | [.chan (some m), .int .u32 n, .bool false] => bif Nat.beq (symCode m) 1 && decide (n = 1) && Nat.blt (symOff m) 900 then some (.ret (.tuple #[.chan (some (Nat.add m 1)), poi, poi]) s) else none
  | _ => none

theorem contains_ok (hC : ∀ (s sub : ByteArray) (w : World), w0.heap.size ≤ w.heap.size → (∀ b, b < w0.heap.size → w.heap[b]? = w0.heap[b]?) → s.size < 4294967281 →
      Calls P f #[.string s, .string sub] w fun e w' => e = .returned (.bool (Lib.contains s.data.toList sub.data.toList)) ∧ w' = w) : KOk P (.of w0) kContains f := by
  intro cs args s r hF ι w args' hini hS hlo hr
  have harr : args' = args'.toList.toArray := by simp
  unfold kContains at hF
  split at hF
  · rename_i a b
    cases hlt : Nat.blt a.size 4294967281 with
    | false => rw [hlt] at hF; cases hF
    | true =>
      rw [hlt] at hF; simp only [cond_true, Option.some.injEq] at hF; subst hF
      generalize args'.toList = l' at hr harr
      subst harr
      cases hr with
      | cons ra rb =>
        cases rb with
        | cons rc rd =>
          cases rd
          have e1 := ra.string_inv; have e2 := rc.string_inv
          subst e1; subst e2
          obtain ⟨e, w', fr, ⟨h1, h2⟩, h3⟩ := hC a b w hini.size hini.same (by simpa using hlt) cs
          subst h2
          exact ⟨ι, w', _, .bool _, hS, Fm.refl _ _ _ _, e, w', fr, ⟨h1, rfl⟩, h3⟩
  · cases hF

theorem clone_ok (hC : ∀ (b : Nat) (es : Array MapEntry) (clock : Nat) (w : World), w.heap[b]? = some (.map es clock) →
      Calls P f #[.map (some b)] w fun e w' => e = .returned (.map (some w.heap.size)) ∧ w' = w.alloc (.map es clock)) : KOk P (.of w0) kClone f := by
  intro cs args s r hF ι w args' hini hS hlo hr
  have harr : args' = args'.toList.toArray := by simp
  unfold kClone at hF
  split at hF
  · rename_i b
    split at hF
    · rename_i es c hg
      simp only [Option.some.injEq] at hF; subst hF
      generalize args'.toList = l' at hr harr
      subst harr
      cases hr with
      | cons ra rb =>
        cases rb
        obtain ⟨l, hl, rfl⟩ := ra.map_inv
        obtain ⟨o', h1, h2⟩ := hS.obj b l _ hl hg
        cases h2 with
        | map a1 a2 a3 a4 a5 =>
          rename_i es' lst
          have hp := WPush.mk' w (.map es' c)
          have hfr : ι s.nx = none := hS.fresh _ (Nat.le_refl _)
          have hx := Ext.up ⟨w.heap.size, 0, 0⟩ hfr
          have hS1 := hS.push (top := 0) (o := .map es c) (fun p => by simp [Par]) hp (.map a1 (a2.mono hx) a3 a4 a5)
          have hF1 := Fm.push (hb := s.nx) (o := .map es c) hS (Nat.le_refl _) hlo (top := 0) hp
          obtain ⟨e, w', fr, ⟨e1, e2⟩, e3⟩ := hC l.blk es' c w h1 cs
          have hw : w' = { w with heap := w.heap.push (.map es' c) } := e2
          subst hw
          exact ⟨_, _, .map (some w.heap.size), .map (Inj.up_self _ _ _), hS1, hF1, e, _, fr, ⟨e1, rfl⟩, e3⟩
    · cases hF
  · cases hF

theorem add_ok (hA : ∀ (a : Int) (w : World), 0 ≤ a → a < 4000000000 → Calls P f #[.int .u32 a, .int .u32 1, .bool false] w fun e w' => (∃ x y, e = .returned (.tuple #[.int .u32 (a + 1), x, y])) ∧ w' = w) : KOk P (.of w0) kAdd f := by
  intro cs args s r hF ι w args' hini hS hlo hr
  have harr : args' = args'.toList.toArray := by simp
  unfold kAdd at hF
  split at hF
  · rename_i m n
    cases hc : Nat.beq (symCode m) 1 && decide (n = 1) && Nat.blt (symOff m) 900 with
    | false => rw [hc] at hF; cases hF
    | true =>
      rw [hc] at hF; simp only [cond_true, Option.some.injEq] at hF; subst hF
      simp only [Bool.and_eq_true, Nat.beq_eq, decide_eq_true_eq, Nat.blt_eq] at hc
      obtain ⟨⟨h1, rfl⟩, h3⟩ := hc
      generalize args'.toList = l' at hr harr
      subst harr
      cases hr with
      | cons ra rb =>
        cases rb with
        | cons rc rd =>
          cases rd with
          | cons re rf =>
            cases rf
            have hk : symK (symCode m) = some .u32 := by rw [h1]; rfl
            obtain ⟨l, e1, e2, e3, rfl⟩ := ra.sym_inv hk
            have := rc.int_inv; subst this
            have := re.bool_inv; subst this
            have hB : symB (symId m) ≤ 90000 := by unfold symB; cases Nat.beq (Nat.mod (symId m) 2) 0 <;> simp
            obtain ⟨e, w', fr, ⟨⟨x, y, q1⟩, q2⟩, q3⟩ := hA ((l.base + symOff m : Nat) : Int) w (by omega) (by omega) cs
            subst q2
            obtain ⟨a1, a2, a3⟩ := sym_add (m := m) (d := 1) (by omega) (by omega)
            have hsym := VRel.sym (ι := ι) (m := Nat.add m 1) (l := l) (k := .u32) (by rw [a1]; exact e1) (by rw [a2]; exact hk) (by rw [a1]; exact e2) (by rw [a3]; omega)
            rw [a3, show ((l.base + (symOff m + 1) : Nat) : Int) = ((l.base + symOff m : Nat) : Int) + 1 by omega] at hsym
            exact ⟨ι, w', _, .tuple (.cons hsym (.cons (.poi x) (.cons (.poi y) .nil))), hS, Fm.refl _ _ _ _, e, w', fr, ⟨q1, rfl⟩, q3⟩
  · cases hF

def noK : Known := fun _ => none
theorem noK_ok {w0 : Start} : KnownOk P noK w0 := fun _ _ h => by cases h

/-- one of two -/
def orK (F G : List Value → S → Option KRes) : List Value → S → Option KRes := fun l s => match F l s with
  | some r => some r
  | none => G l s
theorem orK_ok {w0 : Start} {F G : List Value → S → Option KRes} (hF : KOk P w0 F f) (hG : KOk P w0 G f) : KOk P w0 (orK F G) f := by
  intro cs args s r h
  unfold orK at h
  cases hf : F args s with
  | some r' => simp only [hf, Option.some.injEq] at h; subst h; exact hF cs args s _ hf
  | none => simp only [hf] at h; exact hG cs args s r h

end
end Go.AM
/- The same runs, for the kernel. -/
namespace Go.AM
noncomputable section

def fPut (g : T Value) (dst : Option Tmp) (v : Value) : T Value := Option.rec (motive := fun _ => T Value) g (fun d => g.set d v) dst
theorem fPut_eq (g : T Value) (dst : Option Tmp) (v : Value) : fPut g dst v = putD g dst v := by cases dst <;> rfl
def fHd (r : Run) (dst : Option Tmp) (gd : Gd) (l : List Cl) (ih : T Value → S → RR) (g : T Value) (s : S) (o : OR) : RR :=
  OR.rec (motive := fun _ => RR) (fun v s' => ih (fPut g dst v) s') (fun f a => .at_ (⟨r, dst, gd⟩ :: l) g s (.call f a)) (fun n a => .at_ (⟨r, dst, gd⟩ :: l) g s (.round n a))
    (fun f c a => .at_ (⟨r, dst, gd⟩ :: l) g s (.dfr f c a)) (.at_ (⟨r, dst, gd⟩ :: l) g s .rcv) (fun n k x => .at_ (⟨r, dst, gd⟩ :: l) g s (.upd n k x))
    (fun t v => .at_ (⟨r, dst, gd⟩ :: l) g s (.pan t v)) (fun n => .at_ (⟨r, dst, gd⟩ :: l) g s (.bad n)) o
def fExec (r0 : Run) (dst : Option Tmp) (gd : Gd) (l : List Cl) (ih : T Value → S → RR) (g : T Value) (s : S) (r : Run) : RR :=
  Run.rec (motive := fun _ => RR)
    (fun f => Option.rec (motive := fun _ => RR) (.bad 303) (fun v => ih (fPut g dst v) s) (f g))
    (fun f => Option.rec (motive := fun _ => RR) (.bad 301) (fun v => ih (fPut g dst v) s) (f g s))
    (fun f => Option.rec (motive := fun _ => RR) (.bad 302) (fun q => Prod.rec (motive := fun _ => RR) (fun o mk => ih (fPut g dst (mk s.nx)) (s.push o)) q) (f g))
    (fun f => fHd r0 dst gd l ih g s (f g s)) r
def fGd (no : RR) (ex : RR) (g : T Value) (gd : Gd) : RR :=
  Gd.rec (motive := fun _ => RR) ex (fun d w => Option.rec (motive := fun _ => RR) (.bad 300) (fun b => Bool.rec (motive := fun _ => RR) no ex b) (gdT (.on d w) g)) gd
def fCl (l : List Cl) (ih : T Value → S → RR) (g : T Value) (s : S) (c : Cl) : RR :=
  Cl.rec (motive := fun _ => RR) (fun r dst gd => fGd (ih (fPut g dst und) s) (fExec r dst gd l ih g s r) g gd) c
def fOps (l : List Cl) : T Value → S → RR :=
  List.rec (motive := fun _ => T Value → S → RR) (fun g s => .fin g s) (fun c l ih g s => fCl l ih g s c) l

theorem fOps_eq : ∀ (l : List Cl) (g : T Value) (s : S), fOps l g s = runOps l g s
  | [], g, s => rfl
  | ⟨r, dst, gd⟩ :: l, g, s => by
    have ih : fOps l = runOps l := funext fun g => funext fun s => fOps_eq l g s
    show fGd (fOps l (fPut g dst und) s) (fExec r dst gd l (fOps l) g s r) g gd = _
    rw [ih, fPut_eq]
    have hex : fExec r dst gd l (runOps l) g s r = (match r with
      | .pu f => match f g with
        | some v => runOps l (putD g dst v) s
        | none => .bad 303
      | .rd f => match f g s with
        | some v => runOps l (putD g dst v) s
        | none => .bad 301
      | .al f => match f g with
        | some (o, mk) => runOps l (putD g dst (mk s.nx)) (s.push o)
        | none => .bad 302
      | .hd f => match f g s with
        | .val v s => runOps l (putD g dst v) s
        | r' => .at_ (⟨r, dst, gd⟩ :: l) g s r') := by
      cases r with
      | pu f => simp only [fExec]; cases f g <;> simp only [fPut_eq]
      | rd f => simp only [fExec]; cases f g s <;> simp only [fPut_eq]
      | al f =>
        simp only [fExec]
        cases f g with
        | none => rfl
        | some q => obtain ⟨o, mk⟩ := q; simp only [fPut_eq]
      | hd f => simp only [fExec]; cases f g s <;> simp only [fHd, fPut_eq]
    cases gd with
    | no =>
      simp only [fGd, runOps, gdT]
      exact hex
    | on d w =>
      simp only [fGd, runOps]
      cases gdT (.on d w) g with
      | none => rfl
      | some b => cases b with
        | false => rfl
        | true => exact hex

def fMk (fn nt : Nat) (ds : List ADef) (d : Bool) (r : Option Nat) (cs : List Fr) (g : T Value) (s : S) (k : List AItem) : Res := .next ⟨⟨fn, nt, g, k, ds, .run, d, r⟩ :: cs, s⟩
def fGo (P : Program) (K : Known) (fn nt : Nat) (all : Array Oper) (k : List AItem) (ds : List ADef) (d : Bool) (r : Option Nat) (cs : List Fr) (rr : RR) : Res :=
  RR.rec (motive := fun _ => Res) (fun g s => fMk fn nt ds d r cs g s k) (fun l g s o => app P K ⟨fn, nt, g, .ops all l :: k, ds, .run, d, r⟩ cs s o) (fun n => .bad n) rr
theorem fGo_eq {P : Program} {K : Known} {fn nt : Nat} {all : Array Oper} {l : List Cl} {k : List AItem} {ds : List ADef} {d : Bool} {r : Option Nat} {cs : List Fr} {g : T Value} {s : S} :
    fGo P K fn nt all k ds d r cs (fOps l g s) = goOps P K fn nt g all l k ds d r cs s := by
  rw [fOps_eq]
  unfold goOps
  cases runOps l g s <;> rfl
def boolOf (v : Value) : Option Bool := match v with
  | .bool b => some b
  | _ => none
def fCode (P : Program) (nt : Nat) (slow : Res) (mk : List AItem → Res) (go : Array Oper → List Cl → Res) (g : T Value) (k : List AItem) (c : Code) : Res :=
  Code.rec (motive := fun _ => Res) (mk k) (fun _ ops draw => Bool.rec (motive := fun _ => Res) (go ops (region P nt ops)) slow draw) (fun a b _ _ => mk (.code a :: .code b :: k))
    (fun x a b _ _ => Option.rec (motive := fun _ => Res) slow (fun t => mk (.code (Bool.rec (motive := fun _ => Code) b a t) :: k)) (boolOf (ev g x))) (fun id b _ => mk (.code b :: .inBlock id :: k)) (fun _ _ => slow) (fun _ _ _ _ _ _ => slow)
    (fun id => Option.rec (motive := fun _ => Res) slow (fun k => mk k) (exitA id k)) (fun b _ => mk (.code b :: .inScope b :: k)) (fun _ => mk k) (fun _ => slow) slow (fun _ => slow) c
def fItem (P : Program) (K : Known) (slow : Res) (fn nt : Nat) (g : T Value) (ds : List ADef) (d : Bool) (r : Option Nat) (cs : List Fr) (s : S) (k : List AItem) (it : AItem) : Res :=
  AItem.rec (motive := fun _ => Res) (fun c => fCode P nt slow (fMk fn nt ds d r cs g s) (fun all l => fGo P K fn nt all k ds d r cs (fOps l g s)) g k c) (fun _ => fMk fn nt ds d r cs g s k) (fun _ => slow)
    (fun _ => fMk fn nt ds d r cs g s k) (fun all l => fGo P K fn nt all k ds d r cs (fOps l g s)) (fun _ _ _ _ => slow) (fun _ => slow) (fun _ => slow) slow it
def fFr (P : Program) (K : Known) (slow : Res) (cs : List Fr) (s : S) (fr : Fr) : Res :=
  Fr.rec (motive := fun _ => Res) (fun fn nt g todo ds m d r => AMode.rec (motive := fun _ => Res) (List.rec (motive := fun _ => Res) slow (fun it k _ => fItem P K slow fn nt g ds d r cs s k it) todo) slow (fun _ => slow) m) fr
def fStep (P : Program) (K : Known) (st : St) : Res :=
  St.rec (motive := fun _ => Res) (fun frs s => List.rec (motive := fun _ => Res) (.bad 450) (fun fr cs _ => fFr P K (stepM P K st) cs s fr) frs) st
def fRun (P : Program) (K : Known) (n : Nat) : St → Res :=
  Nat.rec (motive := fun _ => St → Res) (fun st => .next st) (fun _ ih st => Res.rec (motive := fun _ => Res) (fun st => ih st) (fun fr s => .idle fr s) (fun fr s => .stop fr s) (fun fr s r k x => .upd fr s r k x) (fun n => .bad n) (fStep P K st)) n

theorem fStep_eq (P : Program) (K : Known) (st : St) : fStep P K st = stepM P K st := by
  obtain ⟨frs, s⟩ := st
  cases frs with
  | nil => rfl
  | cons fr cs =>
    obtain ⟨fn, nt, g, todo, ds, m, d, r⟩ := fr
    cases m with
    | returning => rfl
    | pan _ => rfl
    | run =>
      cases todo with
      | nil => rfl
      | cons it k =>
        cases it with
        | inBlock _ => rfl
        | inLoop _ => rfl
        | inScope _ => rfl
        | ops all l => exact fGo_eq
        | draw _ _ _ _ => rfl
        | inRF _ => rfl
        | endRF _ => rfl
        | beginRound => rfl
        | code c =>
          cases c with
          | skip => rfl
          | region id ops draw =>
            cases draw with
            | true => rfl
            | false => exact fGo_eq
          | seq a b => rfl
          | cond x a b =>
            show Option.rec (motive := fun _ => Res) (stepM P K _) (fun t => fMk fn nt ds d r cs g s (.code (Bool.rec (motive := fun _ => Code) b a t) :: k)) (boolOf (ev g x)) = stepM P K _
            have hs : stepM P K ⟨⟨fn, nt, g, .code (.cond x a b) :: k, ds, .run, d, r⟩ :: cs, s⟩ = stepCode P K fn nt g (.cond x a b) k ds d r cs s := rfl
            rw [hs]
            simp only [stepCode]
            cases ev g x with
            | bool t => cases t <;> rfl
            | _ => rfl
          | block _ _ => rfl
          | loop _ => rfl
          | rangeFunc _ _ _ _ => rfl
          | exit id =>
            show Option.rec (motive := fun _ => Res) (stepM P K _) (fun k => fMk fn nt ds d r cs g s k) (exitA id k) = stepM P K _
            have hs : stepM P K ⟨⟨fn, nt, g, .code (.exit id) :: k, ds, .run, d, r⟩ :: cs, s⟩ = stepCode P K fn nt g (.exit id) k ds d r cs s := rfl
            rw [hs]
            simp only [stepCode]
            cases exitA id k <;> rfl
          | scope _ => rfl
          | label _ => rfl
          | goto _ => rfl
          | ret => rfl
          | refuse _ => rfl
theorem fRun_eq (P : Program) (K : Known) : ∀ (n : Nat) (st : St), fRun P K n st = runM P K n st
  | 0, st => rfl
  | n + 1, st => by
    show Res.rec (motive := fun _ => Res) (fun st => fRun P K n st) (fun fr s => .idle fr s) (fun fr s => .stop fr s) (fun fr s r k x => .upd fr s r k x) (fun n => .bad n) (fStep P K st) = _
    rw [fStep_eq]
    simp only [runM]
    cases stepM P K st with
    | next st => exact fRun_eq P K n st
    | _ => rfl

def runEF (P : Program) (K : Known) (n : Nat) (st : St) : Res :=
  match fRun P K n st with
  | .idle fr s => match endFr fr with
    | some fr => fRun P K 2000 ⟨[fr], s⟩
    | none => .bad 501
  | r => r
theorem runEF_eq (P : Program) (K : Known) (n : Nat) (st : St) : runEF P K n st = runE P K n st := by
  unfold runEF runE
  rw [fRun_eq]
  cases runM P K n st with
  | idle fr s =>
    simp only []
    cases endFr fr with
    | none => rfl
    | some fr => simp only [fRun_eq]
  | _ => rfl
def shotRunF (P : Program) (K : Known) (n : Nat) (f : FuncId) (sh : Shot) : Bool :=
  match sh with
  | ⟨args, nx, pre, a, nx', post⟩ => preOk nx post pre && Nat.ble nx nx' &&
    match enter P f args false with
    | some fr => match runEF P K n ⟨[fr], ⟨ofL pre .leaf, nx, 0⟩⟩ with
      | .stop fr s2 => (match leafR P fr s2 with | some a' => sameAns a' a | none => false) && Nat.beq s2.nx nx' && allIn s2.h post
      | _ => false
    | none => false
theorem shotRunF_eq {P : Program} {K : Known} {n : Nat} {f : FuncId} {sh : Shot} (h : shotRunF P K n f sh = true) : shotRun P K n f sh = true := by
  obtain ⟨args, nx, pre, a, nx', post⟩ := sh
  simp only [shotRunF, shotRun, runEF_eq] at h ⊢
  exact h

end
end Go.AM
/- Short names for values and objects. -/
namespace Go.AM
noncomputable section
def vT : Value := .bool true
def vF : Value := .bool false
def vN : Value := .pointer none
def vi (n : Int) : Value := .int .i64 n
def vu (n : Int) : Value := .int .u32 n
def vy (n : Int) : Value := .int .u8 n
def st (l : List Nat) : Value := .string ⟨(l.map UInt8.ofNat).toArray⟩
def vp (b o : Nat) : Value := .pointer (some ⟨b, o, none⟩)
def vq (b o z : Nat) : Value := .pointer (some ⟨b, o, some z⟩)
def vs (b o n c : Nat) : Value := .slice (some ⟨b, o, none⟩) n c
def vz (b o z n c : Nat) : Value := .slice (some ⟨b, o, some z⟩) n c
def vm (b : Nat) : Value := .map (some b)
def bl (e s : Nat) (par : Option Nat) (cs : List Value) : AObj := .blk ⟨T.ofList cs 0 .leaf, cs.length, e, par, s⟩
def bb (e s : Nat) (par : Option Nat) (cs : List Nat) : AObj := .blk ⟨T.ofList (cs.map fun n => .int .u8 (Int.ofNat n)) 0 .leaf, cs.length, e, par, s⟩
def setAt : List (Nat × Value) → T Value → T Value
  | [], t => t
  | (i, v) :: l, t => setAt l (t.set i v)
def bx (e s : Nat) (par : Option Nat) (n : Nat) (cs : List (Nat × Value)) : AObj := .blk ⟨setAt cs .leaf, n, e, par, s⟩
end
end Go.AM
