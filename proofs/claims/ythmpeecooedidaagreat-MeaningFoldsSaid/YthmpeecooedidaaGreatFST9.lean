/- MeaningFolds: the machine runs these calls as their shots tell. -/
import Derived.Test.YthmpeecooedidaaGreatFSDef
namespace Go.Proofs
open Go Go.AM
noncomputable section
set_option maxRecDepth 1000000
theorem r39:shotRunF Tryz.prog K_39 100000 11 sh39=true:=by decide+kernel
theorem f39:shotFrame sh39=true:=by decide+kernel
theorem r40:shotRunF Tryz.prog K_40 100000 34 sh40=true:=by decide+kernel
theorem f40:shotFrame sh40=true:=by decide+kernel
end
end Go.Proofs
