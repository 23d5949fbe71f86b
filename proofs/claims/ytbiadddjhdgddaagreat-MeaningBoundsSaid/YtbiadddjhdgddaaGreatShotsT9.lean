/- MeaningBounds: the machine runs these calls as their shots tell, part 9. -/
import Derived.Test.YtbiadddjhdgddaaGreatShotsDef
namespace Go.Proofs
open Go Go.AM
noncomputable section
set_option maxRecDepth 1000000
theorem r22 : shotRunF Tryz.prog K_22 100000 50 sh22 = true := by decide +kernel
theorem f22 : shotFrame sh22 = true := by decide +kernel
theorem r23 : shotRunF Tryz.prog K_23 100000 4 sh23 = true := by decide +kernel
theorem f23 : shotFrame sh23 = true := by decide +kernel
end
end Go.Proofs
