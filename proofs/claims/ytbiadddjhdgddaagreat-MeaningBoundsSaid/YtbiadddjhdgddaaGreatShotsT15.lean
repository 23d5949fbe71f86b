/- MeaningBounds: the machine runs these calls as their shots tell, part 15. -/
import Derived.Test.YtbiadddjhdgddaaGreatShotsDef
namespace Go.Proofs
open Go Go.AM
noncomputable section
set_option maxRecDepth 1000000
theorem r39 : shotRunF Tryz.prog K_39 100000 21 sh39 = true := by decide +kernel
theorem f39 : shotFrame sh39 = true := by decide +kernel
theorem r40 : shotRunF Tryz.prog K_40 100000 7 sh40 = true := by decide +kernel
theorem f40 : shotFrame sh40 = true := by decide +kernel
theorem r41 : shotRunF Tryz.prog K_41 100000 21 sh41 = true := by decide +kernel
theorem f41 : shotFrame sh41 = true := by decide +kernel
theorem r42 : shotRunF Tryz.prog K_42 100000 7 sh42 = true := by decide +kernel
theorem f42 : shotFrame sh42 = true := by decide +kernel
end
end Go.Proofs
