/- JudgeNil: closed facts of its card. -/
import Derived.Test.YteoodndfkdfnaaaGreatDoorCards
import Derived.Test.YteoodndfkdfnaaaGreatDoorJoined
import Derived.SevenTiedAt
import Derived.KernelRfl
namespace Go.Proofs.YteoodndfkdfnaaaGreatDoor
open Go
theorem c_wf : OpenClaim.wfByText (OpenSpec.ofChange Rows.judgeNilSpec) Rows.judgeNilRow = true := by kernel_rfl
theorem c_main : Tryz.prog.mainIs = some (true, "62c64be7250e55aed1bc84f412793b354e40f7d978f56eebf4498981bb2c466f".toList) := by kernel_rfl
theorem n_funcs : Tryz.prog.funcs.size = 787 := by kernel_rfl
theorem c_look : ((Tryz.f163.body).any fun c => c.looks Tryz.prog) = true := by kernel_rfl
theorem c_looks : true = Tryz.prog.looks [] := by
  symm
  unfold Program.looks
  rw [List.any_eq_true]
  refine ⟨163, List.mem_range.2 (by rw [n_funcs]; decide), ?_⟩
  rw [Tryz.func163]
  simp only [Option.any_some, List.contains_nil, Bool.not_false, Bool.true_and]
  have h := c_look
  revert h
  cases Tryz.f163.body with
  | none => intro h; cases h
  | some c => intro h; exact h
theorem g_closure : (cloL.any fun g => (Tryz.prog.funcs[g]?).any Func.goes) = false := by kernel_rfl
theorem g_all : Tryz.prog.funcs.any Func.goes = false := by kernel_rfl
theorem g_three : Tryz.prog.goes 3 = false := by
  unfold Program.goes
  rw [clo, g_closure, g_all]
  cases Tryz.prog.unfollowed 3 <;> rfl
theorem c_goes : false = Rows.judgeNilRow.goesBy Tryz.prog := by
  unfold OpenClaim.goesBy Program.goesAt Program.goesFrom
  rw [named_is, Option.any_some, g_three]
  rfl
end Go.Proofs.YteoodndfkdfnaaaGreatDoor
