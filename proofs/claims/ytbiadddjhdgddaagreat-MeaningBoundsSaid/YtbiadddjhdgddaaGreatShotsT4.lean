/- MeaningBounds: the machine runs these calls as their shots tell, part 4. -/
import Derived.Test.YtbiadddjhdgddaaGreatShotsDef
namespace Go.Proofs
open Go Go.AM
noncomputable section
set_option maxRecDepth 1000000
theorem r10 : shotRunF Tryz.prog K_10 100000 13 sh10 = true := by decide +kernel
theorem f10 : shotFrame sh10 = true := by decide +kernel
end
end Go.Proofs
