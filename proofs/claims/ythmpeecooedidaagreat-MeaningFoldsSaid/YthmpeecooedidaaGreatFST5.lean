/- MeaningFolds: the machine runs these calls as their shots tell. -/
import Derived.Test.YthmpeecooedidaaGreatFSDef
namespace Go.Proofs
open Go Go.AM
noncomputable section
set_option maxRecDepth 1000000
theorem r17:shotRunF Tryz.prog K_17 100000 8 sh17=true:=by decide+kernel
theorem f17:shotFrame sh17=true:=by decide+kernel
theorem r18:shotRunF Tryz.prog K_18 100000 19 sh18=true:=by decide+kernel
theorem f18:shotFrame sh18=true:=by decide+kernel
theorem r19:shotRunF Tryz.prog K_19 100000 42 sh19=true:=by decide+kernel
theorem f19:shotFrame sh19=true:=by decide+kernel
theorem r20:shotRunF Tryz.prog K_20 100000 10 sh20=true:=by decide+kernel
theorem f20:shotFrame sh20=true:=by decide+kernel
theorem r21:lawRunF Tryz.prog K_21=true:=by decide+kernel
theorem r22:shotRunF Tryz.prog K_22 100000 10 sh22=true:=by decide+kernel
theorem f22:shotFrame sh22=true:=by decide+kernel
end
end Go.Proofs
