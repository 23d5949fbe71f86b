/- MeaningBounds: the machine runs these calls as their shots tell, part 13. -/
import Derived.Test.YtbiadddjhdgddaaGreatShotsDef
namespace Go.Proofs
open Go Go.AM
noncomputable section
set_option maxRecDepth 1000000
theorem r34 : shotRunF Tryz.prog K_34 100000 7 sh34 = true := by decide +kernel
theorem f34 : shotFrame sh34 = true := by decide +kernel
theorem r35 : shotRunF Tryz.prog K_35 100000 7 sh35 = true := by decide +kernel
theorem f35 : shotFrame sh35 = true := by decide +kernel
theorem r36 : shotRunF Tryz.prog K_36 100000 13 sh36 = true := by decide +kernel
theorem f36 : shotFrame sh36 = true := by decide +kernel
end
end Go.Proofs
