/- MeaningFolds: the machine runs these calls as their shots tell. -/
import Derived.Test.YthmpeecooedidaaGreatFSDef
namespace Go.Proofs
open Go Go.AM
noncomputable section
set_option maxRecDepth 1000000
theorem r0:shotRunF Tryz.prog K_0 100000 34 sh0=true:=by decide+kernel
theorem f0:shotFrame sh0=true:=by decide+kernel
theorem r1:shotRunF Tryz.prog K_1 100000 8 sh1=true:=by decide+kernel
theorem f1:shotFrame sh1=true:=by decide+kernel
end
end Go.Proofs
