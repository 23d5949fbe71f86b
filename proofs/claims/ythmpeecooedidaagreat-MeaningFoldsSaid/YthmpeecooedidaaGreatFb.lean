/- MeaningFolds: closed facts of its row. -/
import Derived.Test.YthmpeecooedidaaGreatRows
import Derived.ProofKit
import Derived.JoinedOf
import Derived.Handed
namespace Go.Proofs.YthmpeecooedidaaGreat
open Go
theorem k_rec : (Rows.meaningFoldsRow.recurses == Tryz.prog.recurses 3) = true := by kernel_rfl
theorem k_named : (Rows.meaningFoldsRow.named == Tryz.prog.varsNamed 3) = true := by kernel_rfl
end Go.Proofs.YthmpeecooedidaaGreat
