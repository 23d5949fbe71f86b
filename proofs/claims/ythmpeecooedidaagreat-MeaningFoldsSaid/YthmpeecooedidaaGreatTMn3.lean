/- MeaningFolds: the machine runs these rows of the tables as they tell. -/
import Derived.Test.YthmpeecooedidaaGreatProg
import Derived.Test.YthmpeecooedidaaGreatMe
namespace Go.Proofs
open Go Go.AM
noncomputable section
set_option maxRecDepth 1000000
theorem m51_0:(((rowsM).drop 0).take 15).all (rowRunMF Tryz.prog M51)=true:=by decide+kernel
theorem m51_1:(((rowsM).drop 15).take 15).all (rowRunMF Tryz.prog M51)=true:=by decide+kernel
theorem m51_2:(((rowsM).drop 30).take 15).all (rowRunMF Tryz.prog M51)=true:=by decide+kernel
theorem oo51:(List.range 6).all (objRunF Tryz.prog M51)=true:=by decide+kernel
theorem m52_0:(((rowsM).drop 0).take 15).all (rowRunMF Tryz.prog M52)=true:=by decide+kernel
theorem m52_1:(((rowsM).drop 15).take 15).all (rowRunMF Tryz.prog M52)=true:=by decide+kernel
theorem m52_2:(((rowsM).drop 30).take 15).all (rowRunMF Tryz.prog M52)=true:=by decide+kernel
theorem oo52:(List.range 6).all (objRunF Tryz.prog M52)=true:=by decide+kernel
end
end Go.Proofs
