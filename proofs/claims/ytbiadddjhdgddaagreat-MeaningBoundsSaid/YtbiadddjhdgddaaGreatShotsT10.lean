/- MeaningBounds: the machine runs these calls as their shots tell, part 10. -/
import Derived.Test.YtbiadddjhdgddaaGreatShotsDef
namespace Go.Proofs
open Go Go.AM
noncomputable section
set_option maxRecDepth 1000000
theorem r24 : shotRunF Tryz.prog K_24 100000 13 sh24 = true := by decide +kernel
theorem f24 : shotFrame sh24 = true := by decide +kernel
theorem r25 : shotRunF Tryz.prog K_25 100000 16 sh25 = true := by decide +kernel
theorem f25 : shotFrame sh25 = true := by decide +kernel
end
end Go.Proofs
