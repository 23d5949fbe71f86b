/- MeaningFolds: the machine runs these calls as their shots tell. -/
import Derived.Test.YthmpeecooedidaaGreatFSDef
namespace Go.Proofs
open Go Go.AM
noncomputable section
set_option maxRecDepth 1000000
theorem r44:shotRunF Tryz.prog K_44 100000 11 sh44=true:=by decide+kernel
theorem f44:shotFrame sh44=true:=by decide+kernel
theorem r45:shotRunF Tryz.prog K_45 100000 5 sh45=true:=by decide+kernel
end
end Go.Proofs
