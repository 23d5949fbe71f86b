/- MeaningFolds: the machine runs these rows of the tables as they tell. -/
import Derived.Test.YthmpeecooedidaaGreatProg
import Derived.Test.YthmpeecooedidaaGreatMe
namespace Go.Proofs
open Go Go.AM
noncomputable section
set_option maxRecDepth 1000000
theorem m11_0:(((rowsM).drop 0).take 15).all (rowRunMF Tryz.prog M11)=true:=by decide+kernel
theorem m11_1:(((rowsM).drop 15).take 15).all (rowRunMF Tryz.prog M11)=true:=by decide+kernel
theorem m11_2:(((rowsM).drop 30).take 15).all (rowRunMF Tryz.prog M11)=true:=by decide+kernel
theorem oo11:(List.range 6).all (objRunF Tryz.prog M11)=true:=by decide+kernel
theorem m12_0:(((rowsM).drop 0).take 15).all (rowRunMF Tryz.prog M12)=true:=by decide+kernel
theorem m12_1:(((rowsM).drop 15).take 15).all (rowRunMF Tryz.prog M12)=true:=by decide+kernel
theorem m12_2:(((rowsM).drop 30).take 15).all (rowRunMF Tryz.prog M12)=true:=by decide+kernel
theorem oo12:(List.range 6).all (objRunF Tryz.prog M12)=true:=by decide+kernel
end
end Go.Proofs
