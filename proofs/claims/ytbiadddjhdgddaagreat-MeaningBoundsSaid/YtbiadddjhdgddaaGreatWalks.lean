/- MeaningBounds: what the functions at the bottom do: maps.Clone, word.Add, strings.Contains. Conditions: the world has the shape that the form asks of it. -/
import Derived.Test.YtbiadddjhdgddaaGreatShelf
import Derived.Test.YtbiadddjhdgddaaGreatMe
import Derived.WalkKit
import Derived.OwnWalk
import Derived.Laws.Externs
import Derived.MapKept
namespace Go.Proofs
open Go.RowKit
theorem equal_map_nil (P : Program) (w : World) (d : Nat) (t k e : TypeId) (p : Option Nat) (h : P.underlying t = some (.map k e)) :
    (Op.equalIn (d + 1) t (.map p) (.map none)).run P w = .ok p.isNone w := by
  cases p <;> simp [Op.equalIn, run_underlying h]
theorem run_map_nil (P : Program) (w : World) (t k e : TypeId) (p : Option Nat) (h : P.underlying t = some (.map k e)) :
    (binOp .eql t (.map p) (.map none)).run P w = .ok (.bool p.isNone) w := by
  simp only [binOp]
  simp [show Op.equal t (.map p) (.map none) = Op.equalIn (9999 + 1) t (.map p) (.map none) from rfl, equal_map_nil P w 9999 t k e p h]
theorem run_assert_map (P : Program) (w : World) (t xT k e : TypeId) (v : Value) (h : P.underlying t = some (.map k e)) : (Instr.typeAssert (.iface t v) xT t false).run P w = .ok v w := by
  simp [Instr.typeAssert, run_underlying h, go_sem, Result.andThen]
theorem run_clone (P : Program) (w : World) {r : Nat} {es : Array MapEntry} {clock : Nat} (t : TypeId) (hb : w.heap[r]? = some (.map es clock)) :
    (Extern.MapsClone.clone #[.iface t (.map (some r))]).run P w = .ok (.iface t (.map (some w.heap.size))) (w.alloc (.map es clock)) := by
  have e : Extern.MapsClone.clone #[.iface t (.map (some r))] = (getObj r >>= fun o => match o with
      | .map entries clock => (newObj (.map entries clock) >>= fun n => pure (.iface t (.map (some n))))
      | _ => stuck "maps.clone: a map expected") := rfl
  rw [e]
  simp [MapKept.run_getObj_map hb, Result.andThen, go_sem]
set_option maxRecDepth 100000 in
set_option maxHeartbeats 2000000 in
theorem Tryz.clone (b : Nat) (es : Array MapEntry) (clock : Nat) (w : World) (hb : w.heap[b]? = some (.map es clock)) :
    Calls Tryz.prog 81 #[.map (some b)] w fun e w' => e = .returned (.map (some w.heap.size)) ∧ w' = w.alloc (.map es clock) := by
  have hq := fun w => run_map_nil Tryz.prog w 93 _ _ (some b) Tryz.underlying93
  go_enter Tryz.func81, Tryz.ntmps81
  go_wp2
  rw [run_callFunc_extern Tryz.func154 (by kernel_rfl) (by kernel_rfl) (by kernel_rfl) (e := Extern.MapsClone.clone) (by kernel_rfl), run_clone Tryz.prog w 93 hb]
  simp only [Result.andThen]
  rw [Oper.upon_value]
  go_wp2
  rw [run_assert_map Tryz.prog _ 93 20 _ _ _ Tryz.underlying93]
  simp only [Result.andThen]
  rw [Oper.upon_value]
  go_wp2
  go_ret
  exact ⟨rfl, rfl⟩
theorem Tryz.add32 (a b c : Int) (w : World) :
    Calls Tryz.prog 193 #[.int .u32 a, .int .u32 b, .int .u32 c] w fun e w' => (∃ v, e = .returned (.tuple #[.int .u32 (IntKind.u32.wrap (IntKind.u64.wrap (IntKind.u64.wrap (IntKind.u64.wrap a + IntKind.u64.wrap b) + IntKind.u64.wrap c))), .int .u32 v])) ∧ w' = w := by
  go_enter Tryz.func193, Tryz.ntmps193
  go_wp2
  go_ret2
  exact ⟨⟨_, rfl⟩, rfl⟩
theorem Tryz.wordAdd (a b : Int) (w : World) :
    Calls Tryz.prog 126 #[.int .u32 a, .int .u32 b, .bool false] w fun e w' => (∃ x y, e = .returned (.tuple #[.int .u32 (IntKind.u32.wrap (IntKind.u64.wrap (IntKind.u64.wrap (IntKind.u64.wrap a + IntKind.u64.wrap b) + IntKind.u64.wrap 0))), x, y])) ∧ w' = w := by
  go_enter Tryz.func126, Tryz.ntmps126
  go_wp2_with (first
    | (go_at_call 193; refine (Tryz.add32 _ _ _ _).mono ?_; rintro e w1 ⟨⟨v, rfl⟩, rfl⟩))
  go_ret3
  exact ⟨⟨_, _, rfl⟩, rfl⟩
theorem wrap_one {a : Int} (h0 : 0 ≤ a) (h1 : a < 4000000000) : IntKind.u32.wrap (IntKind.u64.wrap (IntKind.u64.wrap (IntKind.u64.wrap a + IntKind.u64.wrap 1) + IntKind.u64.wrap 0)) = a + 1 := by
  have e : ∀ n : Int, IntKind.u64.wrap n = n % 18446744073709551616 := fun n => rfl
  have e2 : ∀ n : Int, IntKind.u32.wrap n = n % 4294967296 := fun n => rfl
  simp only [e, e2]
  omega
open Go.AM in
theorem Tryz.k_clone (W : World) : KOk Tryz.prog (.of W) kClone 81 := clone_ok Tryz.clone
open Go.AM in
theorem Tryz.k_add (W : World) : KOk Tryz.prog (.of W) kAdd 126 := add_ok fun a w h0 h1 => by
  have h := Tryz.wordAdd a 1 w
  rw [wrap_one h0 h1] at h
  exact h
theorem cell?_of_block {w w' : World} {a : Addr} (h : w'.heap[a.block]? = w.heap[a.block]?) : w'.cell? a = w.cell? a := by
  simp only [World.cell?, h]
open Go.AM in
theorem Tryz.k_contains (W : World) (h : W.ShapedOpen Tryz.prog) : KOk Tryz.prog (.of W) kContains 163 := by
  obtain ⟨m, hm⟩ := Tryz.laysM144.s1_3 W h
  have hlt : 0 < W.heap.size := by
    rcases Nat.eq_zero_or_pos W.heap.size with e | e
    · exfalso
      have : W.heap[0]? = none := by simp [e]
      simp [World.cell?, Tryz.laysM144_ren, this] at hm
    · exact e
  refine contains_ok ?_
  intro s sub w _ hsame hs
  refine Tryz.strings_Contains s sub m w hs ?_
  rw [cell?_of_block (hsame 0 hlt)]
  exact hm
theorem Tryz.mixed_orders : Tryz.prog.follows .mixedOrders = true := by kernel_rfl
end Go.Proofs
