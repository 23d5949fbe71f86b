/- MeaningBounds: the machine runs these calls as their shots tell, part 14. -/
import Derived.Test.YtbiadddjhdgddaaGreatShotsDef
namespace Go.Proofs
open Go Go.AM
noncomputable section
set_option maxRecDepth 1000000
theorem r37 : shotRunF Tryz.prog K_37 100000 13 sh37 = true := by decide +kernel
theorem f37 : shotFrame sh37 = true := by decide +kernel
theorem r38 : shotRunF Tryz.prog K_38 100000 6 sh38 = true := by decide +kernel
theorem f38 : shotFrame sh38 = true := by decide +kernel
end
end Go.Proofs
