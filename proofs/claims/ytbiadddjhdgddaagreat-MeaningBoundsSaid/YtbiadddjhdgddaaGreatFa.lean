/- MeaningBounds: closed facts of its row. -/
import Derived.Test.YtbiadddjhdgddaaGreatRows
import Derived.ProofKit
import Derived.JoinedOf
import Derived.Handed
namespace Go.Proofs.YtbiadddjhdgddaaGreat
open Go
theorem k_inPlace : (Rows.meaningBoundsRow.inPlace == Tryz.prog.inPlace 3) = true := by kernel_rfl
theorem k_unf : (Rows.meaningBoundsRow.unfollowed == Tryz.prog.unfollowed 3) = true := by kernel_rfl
end Go.Proofs.YtbiadddjhdgddaaGreat
