/- MeaningFolds: the machine runs these calls as their shots tell. -/
import Derived.Test.YthmpeecooedidaaGreatFSDef
namespace Go.Proofs
open Go Go.AM
noncomputable section
set_option maxRecDepth 1000000
theorem r29:shotRunF Tryz.prog K_29 100000 8 sh29=true:=by decide+kernel
theorem f29:shotFrame sh29=true:=by decide+kernel
theorem r30:shotRunF Tryz.prog K_30 100000 19 sh30=true:=by decide+kernel
theorem f30:shotFrame sh30=true:=by decide+kernel
theorem r31:shotRunF Tryz.prog K_31 100000 42 sh31=true:=by decide+kernel
theorem f31:shotFrame sh31=true:=by decide+kernel
theorem r32:shotRunF Tryz.prog K_32 100000 10 sh32=true:=by decide+kernel
theorem f32:shotFrame sh32=true:=by decide+kernel
theorem r33:lawRunF Tryz.prog K_33=true:=by decide+kernel
end
end Go.Proofs
