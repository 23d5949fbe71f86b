/- JudgeNil: which package-level variables it names. -/
import Derived.Test.YteoodndfkdfnaaaGreatDoorClo
import Derived.JoinedOf
namespace Go.Proofs.YteoodndfkdfnaaaGreatDoor
open Go
theorem k_named : (Rows.judgeNilRow.named == Tryz.prog.varsNamed 3) = true := by
  unfold Program.varsNamed
  rw [clo]
  kernel_rfl
end Go.Proofs.YteoodndfkdfnaaaGreatDoor
