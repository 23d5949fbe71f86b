/- MeaningBounds: the machine runs these calls as their shots tell, part 16. -/
import Derived.Test.YtbiadddjhdgddaaGreatShotsDef
namespace Go.Proofs
open Go Go.AM
noncomputable section
set_option maxRecDepth 1000000
theorem r43 : shotRunF Tryz.prog K_43 100000 13 sh43 = true := by decide +kernel
theorem f43 : shotFrame sh43 = true := by decide +kernel
theorem r44 : shotRunF Tryz.prog K_44 100000 4 sh44 = true := by decide +kernel
theorem f44 : shotFrame sh44 = true := by decide +kernel
theorem r45 : shotRunF Tryz.prog K_45 100000 13 sh45 = true := by decide +kernel
theorem f45 : shotFrame sh45 = true := by decide +kernel
end
end Go.Proofs
