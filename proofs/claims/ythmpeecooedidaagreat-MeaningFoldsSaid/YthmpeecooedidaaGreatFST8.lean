/- MeaningFolds: the machine runs these calls as their shots tell. -/
import Derived.Test.YthmpeecooedidaaGreatFSDef
namespace Go.Proofs
open Go Go.AM
noncomputable section
set_option maxRecDepth 1000000
theorem r34:shotRunF Tryz.prog K_34 100000 19 sh34=true:=by decide+kernel
theorem f34:shotFrame sh34=true:=by decide+kernel
theorem r35:shotRunF Tryz.prog K_35 100000 42 sh35=true:=by decide+kernel
theorem f35:shotFrame sh35=true:=by decide+kernel
theorem r36:shotRunF Tryz.prog K_36 100000 10 sh36=true:=by decide+kernel
theorem f36:shotFrame sh36=true:=by decide+kernel
theorem r37:lawRunF Tryz.prog K_37=true:=by decide+kernel
theorem r38:shotRunF Tryz.prog K_38 100000 34 sh38=true:=by decide+kernel
theorem f38:shotFrame sh38=true:=by decide+kernel
end
end Go.Proofs
