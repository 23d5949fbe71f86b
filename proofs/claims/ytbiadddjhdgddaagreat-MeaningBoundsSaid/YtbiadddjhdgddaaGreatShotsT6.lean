/- MeaningBounds: the machine runs these calls as their shots tell, part 6. -/
import Derived.Test.YtbiadddjhdgddaaGreatShotsDef
namespace Go.Proofs
open Go Go.AM
noncomputable section
set_option maxRecDepth 1000000
theorem r15 : shotRunF Tryz.prog K_15 100000 50 sh15 = true := by decide +kernel
theorem f15 : shotFrame sh15 = true := by decide +kernel
theorem r16 : shotRunF Tryz.prog K_16 100000 4 sh16 = true := by decide +kernel
theorem f16 : shotFrame sh16 = true := by decide +kernel
end
end Go.Proofs
