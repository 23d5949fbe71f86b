/- MeaningFolds: the machine runs these rows of the tables as they tell. -/
import Derived.Test.YthmpeecooedidaaGreatProg
import Derived.Test.YthmpeecooedidaaGreatMe
namespace Go.Proofs
open Go Go.AM
noncomputable section
set_option maxRecDepth 1000000
theorem m31_0:(((rowsM).drop 0).take 15).all (rowRunMF Tryz.prog M31)=true:=by decide+kernel
theorem m31_1:(((rowsM).drop 15).take 15).all (rowRunMF Tryz.prog M31)=true:=by decide+kernel
theorem m31_2:(((rowsM).drop 30).take 15).all (rowRunMF Tryz.prog M31)=true:=by decide+kernel
theorem oo31:(List.range 6).all (objRunF Tryz.prog M31)=true:=by decide+kernel
theorem m32_0:(((rowsM).drop 0).take 15).all (rowRunMF Tryz.prog M32)=true:=by decide+kernel
theorem m32_1:(((rowsM).drop 15).take 15).all (rowRunMF Tryz.prog M32)=true:=by decide+kernel
theorem m32_2:(((rowsM).drop 30).take 15).all (rowRunMF Tryz.prog M32)=true:=by decide+kernel
theorem oo32:(List.range 6).all (objRunF Tryz.prog M32)=true:=by decide+kernel
end
end Go.Proofs
