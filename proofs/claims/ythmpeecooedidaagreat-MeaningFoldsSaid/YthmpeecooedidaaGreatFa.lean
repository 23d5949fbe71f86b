/- MeaningFolds: closed facts of its row. -/
import Derived.Test.YthmpeecooedidaaGreatRows
import Derived.ProofKit
import Derived.JoinedOf
import Derived.Handed
namespace Go.Proofs.YthmpeecooedidaaGreat
open Go
theorem k_inPlace : (Rows.meaningFoldsRow.inPlace == Tryz.prog.inPlace 3) = true := by kernel_rfl
theorem k_unf : (Rows.meaningFoldsRow.unfollowed == Tryz.prog.unfollowed 3) = true := by kernel_rfl
end Go.Proofs.YthmpeecooedidaaGreat
