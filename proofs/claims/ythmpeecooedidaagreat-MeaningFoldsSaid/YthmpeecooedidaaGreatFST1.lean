/- MeaningFolds: the machine runs these calls as their shots tell. -/
import Derived.Test.YthmpeecooedidaaGreatFSDef
namespace Go.Proofs
open Go Go.AM
noncomputable section
set_option maxRecDepth 1000000
theorem r2:shotRunF Tryz.prog K_2 100000 19 sh2=true:=by decide+kernel
theorem f2:shotFrame sh2=true:=by decide+kernel
theorem r3:shotRunF Tryz.prog K_3 100000 42 sh3=true:=by decide+kernel
theorem f3:shotFrame sh3=true:=by decide+kernel
theorem r4:shotRunF Tryz.prog K_4 100000 10 sh4=true:=by decide+kernel
theorem f4:shotFrame sh4=true:=by decide+kernel
theorem r5:lawRunF Tryz.prog K_5=true:=by decide+kernel
end
end Go.Proofs
