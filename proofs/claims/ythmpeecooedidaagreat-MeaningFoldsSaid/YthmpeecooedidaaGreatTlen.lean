/- MeaningFolds: the machine runs these rows of the tables as they tell. -/
import Derived.Test.YthmpeecooedidaaGreatProg
import Derived.Test.YthmpeecooedidaaGreatMe
namespace Go.Proofs
open Go Go.AM
noncomputable section
set_option maxRecDepth 1000000
theorem tDes_len:(rowsK candT desT (desT 64)).length=122:=by decide+kernel
theorem tFac_len:(rowsK candT facT (facT 64)).length=229:=by decide+kernel
theorem tLev_len:(rowsK candT levT (levT 64)).length=724:=by decide+kernel
theorem tMay_len:(rowsK candT mayT (mayT 64)).length=325:=by decide+kernel
theorem yProc_len:(rowsG procT).length=114:=by decide+kernel
theorem yMod_len:(rowsG modT).length=110:=by decide+kernel
theorem y27_len:(rowsY 27).length=257:=by decide+kernel
theorem y11_len:(rowsY 11).length=46:=by decide+kernel
theorem y21_len:(rowsY 21).length=1190:=by decide+kernel
theorem y35_len:(rowsY 35).length=2394:=by decide+kernel
theorem k746_len:(rowsKY).length=51:=by decide+kernel
theorem b746_len:((List.range 256).map rowTxt).length=256:=by decide+kernel
theorem k1266_len:(rowsKY).length=51:=by decide+kernel
theorem b1266_len:((List.range 256).map rowTxt).length=256:=by decide+kernel
theorem k1268_len:(rowsKY).length=51:=by decide+kernel
theorem b1268_len:((List.range 256).map rowTxt).length=256:=by decide+kernel
theorem k1270_len:(rowsKY).length=51:=by decide+kernel
theorem b1270_len:((List.range 256).map rowTxt).length=256:=by decide+kernel
theorem k1271_len:(rowsKY).length=51:=by decide+kernel
theorem b1271_len:((List.range 256).map rowTxt).length=256:=by decide+kernel
theorem m11_len:(rowsM).length=45:=by decide+kernel
theorem m12_len:(rowsM).length=45:=by decide+kernel
theorem m21_len:(rowsM).length=45:=by decide+kernel
theorem m22_len:(rowsM).length=45:=by decide+kernel
theorem m31_len:(rowsM).length=45:=by decide+kernel
theorem m32_len:(rowsM).length=45:=by decide+kernel
theorem m51_len:(rowsM).length=45:=by decide+kernel
theorem m52_len:(rowsM).length=45:=by decide+kernel
end
end Go.Proofs
