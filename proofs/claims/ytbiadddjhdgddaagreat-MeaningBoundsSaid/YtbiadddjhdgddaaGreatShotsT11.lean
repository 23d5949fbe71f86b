/- MeaningBounds: the machine runs these calls as their shots tell, part 11. -/
import Derived.Test.YtbiadddjhdgddaaGreatShotsDef
namespace Go.Proofs
open Go Go.AM
noncomputable section
set_option maxRecDepth 1000000
theorem r26 : shotRunF Tryz.prog K_26 100000 21 sh26 = true := by decide +kernel
theorem f26 : shotFrame sh26 = true := by decide +kernel
theorem r27 : shotRunF Tryz.prog K_27 100000 50 sh27 = true := by decide +kernel
theorem f27 : shotFrame sh27 = true := by decide +kernel
end
end Go.Proofs
