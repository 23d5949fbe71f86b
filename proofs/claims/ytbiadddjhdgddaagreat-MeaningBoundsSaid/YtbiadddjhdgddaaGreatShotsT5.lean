/- MeaningBounds: the machine runs these calls as their shots tell, part 5. -/
import Derived.Test.YtbiadddjhdgddaaGreatShotsDef
namespace Go.Proofs
open Go Go.AM
noncomputable section
set_option maxRecDepth 1000000
theorem r11 : shotRunF Tryz.prog K_11 100000 16 sh11 = true := by decide +kernel
theorem f11 : shotFrame sh11 = true := by decide +kernel
theorem r12 : shotRunF Tryz.prog K_12 100000 45 sh12 = true := by decide +kernel
theorem f12 : shotFrame sh12 = true := by decide +kernel
theorem r13 : shotRunF Tryz.prog K_13 100000 21 sh13 = true := by decide +kernel
theorem f13 : shotFrame sh13 = true := by decide +kernel
theorem r14 : shotRunF Tryz.prog K_14 100000 11 sh14 = true := by decide +kernel
theorem f14 : shotFrame sh14 = true := by decide +kernel
end
end Go.Proofs
