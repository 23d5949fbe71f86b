/- JudgeNil: the call returns true, and leaves what lay before as it was. Conditions: the world has the shape that the form asks of it. -/
import Derived.Test.YteoodndfkdfnaaaGreatDoorShelf
import Derived.Test.YteoodndfkdfnaaaGreatDoorRun
namespace Go.Proofs
open Go Go.AM

theorem cell?_of_block {w w' : World} {a : Addr} (h : w'.heap[a.block]? = w.heap[a.block]?) : w'.cell? a = w.cell? a := by
  simp only [World.cell?, h]

theorem Tryz.known_ok (W : World) (h : W.ShapedOpen Tryz.prog) : KnownOk Tryz.prog (known3 431 351 432) W := by
  obtain ⟨m, hm⟩ := Tryz.laysM144.s1_3 W h
  have hlt : 0 < W.heap.size := by
    rcases Nat.eq_zero_or_pos W.heap.size with e | e
    · exfalso
      have : W.heap[0]? = none := by simp [e]
      simp [World.cell?, Tryz.laysM144_ren, this] at hm
    · exact e
  refine known3_ok ?_ Tryz.bytes_IndexByte Tryz.bytes_IndexByte_nil Tryz.strings_IndexByte
  intro s sub w _ hsame hs
  refine Tryz.strings_Contains s sub m w hs ?_
  rw [cell?_of_block (hsame 0 hlt)]
  exact hm

theorem Tryz.judgeNil_calls (W : World) (h : W.ShapedOpen Tryz.prog) :
    Calls Tryz.prog 3 #[] W fun e w' => e = .returned (.bool true) ∧ (∀ b, b < W.heap.size → w'.heap[b]? = W.heap[b]?) ∧ w'.output = W.output ∧ w'.os = W.os :=
  (answersTrue_sound Tryz.judgeNil_run Tryz.lays137.mixed W (Tryz.known_ok W h)).mono fun _ _ ⟨a, _, c, d, e, _⟩ => ⟨a, c, d, e⟩
end Go.Proofs
