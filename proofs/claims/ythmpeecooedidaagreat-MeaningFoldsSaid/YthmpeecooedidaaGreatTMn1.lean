/- MeaningFolds: the machine runs these rows of the tables as they tell. -/
import Derived.Test.YthmpeecooedidaaGreatProg
import Derived.Test.YthmpeecooedidaaGreatMe
namespace Go.Proofs
open Go Go.AM
noncomputable section
set_option maxRecDepth 1000000
theorem m21_0:(((rowsM).drop 0).take 15).all (rowRunMF Tryz.prog M21)=true:=by decide+kernel
theorem m21_1:(((rowsM).drop 15).take 15).all (rowRunMF Tryz.prog M21)=true:=by decide+kernel
theorem m21_2:(((rowsM).drop 30).take 15).all (rowRunMF Tryz.prog M21)=true:=by decide+kernel
theorem oo21:(List.range 6).all (objRunF Tryz.prog M21)=true:=by decide+kernel
theorem m22_0:(((rowsM).drop 0).take 15).all (rowRunMF Tryz.prog M22)=true:=by decide+kernel
theorem m22_1:(((rowsM).drop 15).take 15).all (rowRunMF Tryz.prog M22)=true:=by decide+kernel
theorem m22_2:(((rowsM).drop 30).take 15).all (rowRunMF Tryz.prog M22)=true:=by decide+kernel
theorem oo22:(List.range 6).all (objRunF Tryz.prog M22)=true:=by decide+kernel
end
end Go.Proofs
