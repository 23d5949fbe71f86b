/- MeaningFolds: the machine runs these calls as their shots tell. -/
import Derived.Test.YthmpeecooedidaaGreatFSDef
namespace Go.Proofs
open Go Go.AM
noncomputable section
set_option maxRecDepth 1000000
theorem r6:shotRunF Tryz.prog K_6 100000 34 sh6=true:=by decide+kernel
theorem f6:shotFrame sh6=true:=by decide+kernel
theorem r7:shotRunF Tryz.prog K_7 100000 8 sh7=true:=by decide+kernel
theorem f7:shotFrame sh7=true:=by decide+kernel
end
end Go.Proofs
