/- MeaningFolds: the machine runs these calls as their shots tell. -/
import Derived.Test.YthmpeecooedidaaGreatFSDef
namespace Go.Proofs
open Go Go.AM
noncomputable section
set_option maxRecDepth 1000000
theorem r8:shotRunF Tryz.prog K_8 100000 19 sh8=true:=by decide+kernel
theorem f8:shotFrame sh8=true:=by decide+kernel
theorem r9:shotRunF Tryz.prog K_9 100000 42 sh9=true:=by decide+kernel
theorem f9:shotFrame sh9=true:=by decide+kernel
theorem r10:shotRunF Tryz.prog K_10 100000 10 sh10=true:=by decide+kernel
theorem f10:shotFrame sh10=true:=by decide+kernel
theorem r11:lawRunF Tryz.prog K_11=true:=by decide+kernel
theorem r12:shotRunF Tryz.prog K_12 100000 19 sh12=true:=by decide+kernel
theorem f12:shotFrame sh12=true:=by decide+kernel
end
end Go.Proofs
