/- MeaningBounds: the machine runs these calls as their shots tell, part 7. -/
import Derived.Test.YtbiadddjhdgddaaGreatShotsDef
namespace Go.Proofs
open Go Go.AM
noncomputable section
set_option maxRecDepth 1000000
theorem r17 : shotRunF Tryz.prog K_17 100000 13 sh17 = true := by decide +kernel
theorem f17 : shotFrame sh17 = true := by decide +kernel
end
end Go.Proofs
