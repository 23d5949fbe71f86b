/- MeaningBounds: closed facts of its row. -/
import Derived.Test.YtbiadddjhdgddaaGreatRows
import Derived.ProofKit
import Derived.JoinedOf
import Derived.Handed
namespace Go.Proofs.YtbiadddjhdgddaaGreat
open Go
theorem k_laidOut : laidOutB Tryz.prog = true := by kernel_rfl
theorem k_mapsRowed : mapsRowed Tryz.prog = true := by kernel_rfl
end Go.Proofs.YtbiadddjhdgddaaGreat
