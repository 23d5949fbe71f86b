/- MeaningBounds: the machine runs these calls as their shots tell, part 12. -/
import Derived.Test.YtbiadddjhdgddaaGreatShotsDef
namespace Go.Proofs
open Go Go.AM
noncomputable section
set_option maxRecDepth 1000000
theorem r28 : shotRunF Tryz.prog K_28 100000 4 sh28 = true := by decide +kernel
theorem f28 : shotFrame sh28 = true := by decide +kernel
theorem r29 : shotRunF Tryz.prog K_29 100000 13 sh29 = true := by decide +kernel
theorem f29 : shotFrame sh29 = true := by decide +kernel
theorem r30 : shotRunF Tryz.prog K_30 100000 13 sh30 = true := by decide +kernel
theorem f30 : shotFrame sh30 = true := by decide +kernel
theorem r31 : shotRunF Tryz.prog K_31 100000 13 sh31 = true := by decide +kernel
theorem f31 : shotFrame sh31 = true := by decide +kernel
theorem r32 : shotRunF Tryz.prog K_32 100000 6 sh32 = true := by decide +kernel
theorem f32 : shotFrame sh32 = true := by decide +kernel
theorem r33 : shotRunF Tryz.prog K_33 100000 7 sh33 = true := by decide +kernel
theorem f33 : shotFrame sh33 = true := by decide +kernel
end
end Go.Proofs
