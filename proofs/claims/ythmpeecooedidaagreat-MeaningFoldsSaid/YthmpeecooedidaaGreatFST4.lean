/- MeaningFolds: the machine runs these calls as their shots tell. -/
import Derived.Test.YthmpeecooedidaaGreatFSDef
namespace Go.Proofs
open Go Go.AM
noncomputable section
set_option maxRecDepth 1000000
theorem r13:shotRunF Tryz.prog K_13 100000 42 sh13=true:=by decide+kernel
theorem f13:shotFrame sh13=true:=by decide+kernel
theorem r14:shotRunF Tryz.prog K_14 100000 10 sh14=true:=by decide+kernel
theorem f14:shotFrame sh14=true:=by decide+kernel
theorem r15:lawRunF Tryz.prog K_15=true:=by decide+kernel
theorem r16:shotRunF Tryz.prog K_16 100000 34 sh16=true:=by decide+kernel
theorem f16:shotFrame sh16=true:=by decide+kernel
end
end Go.Proofs
