/- MeaningBounds: the machine runs these calls as their shots tell, part 8. -/
import Derived.Test.YtbiadddjhdgddaaGreatShotsDef
namespace Go.Proofs
open Go Go.AM
noncomputable section
set_option maxRecDepth 1000000
theorem r18 : shotRunF Tryz.prog K_18 100000 16 sh18 = true := by decide +kernel
theorem f18 : shotFrame sh18 = true := by decide +kernel
theorem r19 : shotRunF Tryz.prog K_19 100000 45 sh19 = true := by decide +kernel
theorem f19 : shotFrame sh19 = true := by decide +kernel
theorem r20 : shotRunF Tryz.prog K_20 100000 21 sh20 = true := by decide +kernel
theorem f20 : shotFrame sh20 = true := by decide +kernel
theorem r21 : shotRunF Tryz.prog K_21 100000 11 sh21 = true := by decide +kernel
theorem f21 : shotFrame sh21 = true := by decide +kernel
end
end Go.Proofs
