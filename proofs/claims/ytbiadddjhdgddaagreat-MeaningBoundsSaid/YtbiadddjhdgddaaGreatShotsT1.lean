/- MeaningBounds: the machine runs these calls as their shots tell, part 1. -/
import Derived.Test.YtbiadddjhdgddaaGreatShotsDef
namespace Go.Proofs
open Go Go.AM
noncomputable section
set_option maxRecDepth 1000000
theorem r1 : shotRunF Tryz.prog K_1 100000 14 sh1 = true := by decide +kernel
theorem f1 : shotFrame sh1 = true := by decide +kernel
theorem r2 : shotRunF Tryz.prog K_2 100000 45 sh2 = true := by decide +kernel
theorem f2 : shotFrame sh2 = true := by decide +kernel
theorem r3 : shotRunF Tryz.prog K_3 100000 11 sh3 = true := by decide +kernel
theorem f3 : shotFrame sh3 = true := by decide +kernel
theorem r5 : shotRunF Tryz.prog K_5 100000 4 sh5 = true := by decide +kernel
theorem f5 : shotFrame sh5 = true := by decide +kernel
end
end Go.Proofs
