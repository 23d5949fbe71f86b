/- MeaningBounds: closed facts of its row. -/
import Derived.Test.YtbiadddjhdgddaaGreatRows
import Derived.ProofKit
import Derived.JoinedOf
import Derived.Handed
namespace Go.Proofs.YtbiadddjhdgddaaGreat
open Go
theorem k_rec : (Rows.meaningBoundsRow.recurses == Tryz.prog.recurses 3) = true := by kernel_rfl
theorem k_named : (Rows.meaningBoundsRow.named == Tryz.prog.varsNamed 3) = true := by kernel_rfl
end Go.Proofs.YtbiadddjhdgddaaGreat
