/- MeaningBounds: the machine runs these calls as their shots tell, part 0. -/
import Derived.Test.YtbiadddjhdgddaaGreatShotsDef
namespace Go.Proofs
open Go Go.AM
noncomputable section
set_option maxRecDepth 1000000
theorem r0 : shotRunF Tryz.prog K_0 100000 13 sh0 = true := by decide +kernel
theorem f0 : shotFrame sh0 = true := by decide +kernel
end
end Go.Proofs
