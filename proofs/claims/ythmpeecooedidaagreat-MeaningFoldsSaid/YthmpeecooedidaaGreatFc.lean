/- MeaningFolds: closed facts of its row. -/
import Derived.Test.YthmpeecooedidaaGreatRows
import Derived.ProofKit
import Derived.JoinedOf
import Derived.Handed
namespace Go.Proofs.YthmpeecooedidaaGreat
open Go
theorem k_laidOut : laidOutB Tryz.prog = true := by kernel_rfl
theorem k_mapsRowed : mapsRowed Tryz.prog = true := by kernel_rfl
end Go.Proofs.YthmpeecooedidaaGreat
