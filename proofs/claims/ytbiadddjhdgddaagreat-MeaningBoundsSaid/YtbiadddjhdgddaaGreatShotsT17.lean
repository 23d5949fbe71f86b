/- MeaningBounds: the machine runs these calls as their shots tell, part 17. -/
import Derived.Test.YtbiadddjhdgddaaGreatShotsDef
namespace Go.Proofs
open Go Go.AM
noncomputable section
set_option maxRecDepth 1000000
theorem r46 : shotRunF Tryz.prog K_46 100000 21 sh46 = true := by decide +kernel
theorem f46 : shotFrame sh46 = true := by decide +kernel
theorem r47 : shotRunF Tryz.prog K_47 100000 4 sh47 = true := by decide +kernel
theorem f47 : shotFrame sh47 = true := by decide +kernel
theorem r48 : shotRunF Tryz.prog K_48 100000 13 sh48 = true := by decide +kernel
theorem f48 : shotFrame sh48 = true := by decide +kernel
theorem r49 : shotRunF Tryz.prog K_49 100000 4 sh49 = true := by decide +kernel
theorem f49 : shotFrame sh49 = true := by decide +kernel
theorem rTop : answersTrue Tryz.prog K_50 3 3000 = true := by decide +kernel
end
end Go.Proofs
