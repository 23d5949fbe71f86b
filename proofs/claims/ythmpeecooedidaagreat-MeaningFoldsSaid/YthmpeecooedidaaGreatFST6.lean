/- MeaningFolds: the machine runs these calls as their shots tell. -/
import Derived.Test.YthmpeecooedidaaGreatFSDef
namespace Go.Proofs
open Go Go.AM
noncomputable section
set_option maxRecDepth 1000000
theorem r23:lawRunF Tryz.prog K_23=true:=by decide+kernel
theorem r24:shotRunF Tryz.prog K_24 100000 10 sh24=true:=by decide+kernel
theorem f24:shotFrame sh24=true:=by decide+kernel
theorem r25:lawRunF Tryz.prog K_25=true:=by decide+kernel
theorem r26:shotRunF Tryz.prog K_26 100000 10 sh26=true:=by decide+kernel
theorem f26:shotFrame sh26=true:=by decide+kernel
theorem r27:lawRunF Tryz.prog K_27=true:=by decide+kernel
theorem r28:shotRunF Tryz.prog K_28 100000 34 sh28=true:=by decide+kernel
theorem f28:shotFrame sh28=true:=by decide+kernel
end
end Go.Proofs
