/- MeaningFolds: the machine runs these calls as their shots tell. -/
import Derived.Test.YthmpeecooedidaaGreatFSDef
namespace Go.Proofs
open Go Go.AM
noncomputable section
set_option maxRecDepth 1000000
theorem r41:shotRunF Tryz.prog K_41 100000 42 sh41=true:=by decide+kernel
theorem f41:shotFrame sh41=true:=by decide+kernel
theorem r42:shotRunF Tryz.prog K_42 100000 11 sh42=true:=by decide+kernel
theorem f42:shotFrame sh42=true:=by decide+kernel
theorem r43:shotRunF Tryz.prog K_43 100000 34 sh43=true:=by decide+kernel
theorem f43:shotFrame sh43=true:=by decide+kernel
end
end Go.Proofs
