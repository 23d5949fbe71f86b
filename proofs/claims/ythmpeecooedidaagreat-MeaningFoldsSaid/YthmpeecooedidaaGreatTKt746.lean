/- MeaningFolds: the machine runs these rows of the tables as they tell. -/
import Derived.Test.YthmpeecooedidaaGreatProg
import Derived.Test.YthmpeecooedidaaGreatMe
namespace Go.Proofs
open Go Go.AM
noncomputable section
set_option maxRecDepth 1000000
theorem k746_0:(((rowsKY).drop 0).take 20).all (rowKYF Tryz.prog S746)=true:=by decide+kernel
theorem k746_1:(((rowsKY).drop 20).take 20).all (rowKYF Tryz.prog S746)=true:=by decide+kernel
theorem k746_2:(((rowsKY).drop 40).take 20).all (rowKYF Tryz.prog S746)=true:=by decide+kernel
theorem b746_0:((((List.range 256).map rowTxt).drop 0).take 40).all (rowKYF Tryz.prog S746)=true:=by decide+kernel
theorem b746_1:((((List.range 256).map rowTxt).drop 40).take 40).all (rowKYF Tryz.prog S746)=true:=by decide+kernel
theorem b746_2:((((List.range 256).map rowTxt).drop 80).take 40).all (rowKYF Tryz.prog S746)=true:=by decide+kernel
theorem b746_3:((((List.range 256).map rowTxt).drop 120).take 40).all (rowKYF Tryz.prog S746)=true:=by decide+kernel
theorem b746_4:((((List.range 256).map rowTxt).drop 160).take 40).all (rowKYF Tryz.prog S746)=true:=by decide+kernel
theorem b746_5:((((List.range 256).map rowTxt).drop 200).take 40).all (rowKYF Tryz.prog S746)=true:=by decide+kernel
theorem b746_6:((((List.range 256).map rowTxt).drop 240).take 40).all (rowKYF Tryz.prog S746)=true:=by decide+kernel
theorem p746:(List.range 6).all (rowPYF Tryz.prog S746)=true:=by decide+kernel
end
end Go.Proofs
