/- JudgeNil: what its calls come to without a body. -/
import Derived.Test.YteoodndfkdfnaaaGreatDoorClo
import Derived.JoinedOf
namespace Go.Proofs.YteoodndfkdfnaaaGreatDoor
open Go
theorem k_inPlace : (Rows.judgeNilRow.inPlace == Tryz.prog.inPlace 3) = true := by
  unfold Program.inPlace
  rw [clo]
  kernel_rfl
theorem unf : Tryz.prog.unfollowed 3 = true := by
  unfold Program.unfollowed
  rw [clo]
  kernel_rfl
theorem k_unf : (Rows.judgeNilRow.unfollowed == Tryz.prog.unfollowed 3) = true := by rw [unf]; rfl
theorem k_rec : (Rows.judgeNilRow.recurses == Tryz.prog.recurses 3) = true := by
  unfold Program.recurses
  rw [unf]
  rfl
end Go.Proofs.YteoodndfkdfnaaaGreatDoor
