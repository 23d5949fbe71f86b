/- MeaningBounds: the machine runs these calls as their shots tell, part 3. -/
import Derived.Test.YtbiadddjhdgddaaGreatShotsDef
namespace Go.Proofs
open Go Go.AM
noncomputable section
set_option maxRecDepth 1000000
theorem r9 : shotRunF Tryz.prog K_9 100000 4 sh9 = true := by decide +kernel
theorem f9 : shotFrame sh9 = true := by decide +kernel
end
end Go.Proofs
