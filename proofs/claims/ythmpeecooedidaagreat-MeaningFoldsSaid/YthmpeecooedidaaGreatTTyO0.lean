/- MeaningFolds: the machine runs these rows of the tables as they tell. -/
import Derived.Test.YthmpeecooedidaaGreatProg
import Derived.Test.YthmpeecooedidaaGreatMe
namespace Go.Proofs
open Go Go.AM
noncomputable section
set_option maxRecDepth 1000000
theorem y35_0:(((rowsY 35).drop 0).take 20).all (rowYF Tryz.prog tsC)=true:=by decide+kernel
theorem y35_1:(((rowsY 35).drop 20).take 20).all (rowYF Tryz.prog tsC)=true:=by decide+kernel
theorem y35_2:(((rowsY 35).drop 40).take 20).all (rowYF Tryz.prog tsC)=true:=by decide+kernel
theorem y35_3:(((rowsY 35).drop 60).take 20).all (rowYF Tryz.prog tsC)=true:=by decide+kernel
theorem y35_4:(((rowsY 35).drop 80).take 20).all (rowYF Tryz.prog tsC)=true:=by decide+kernel
theorem y35_5:(((rowsY 35).drop 100).take 20).all (rowYF Tryz.prog tsC)=true:=by decide+kernel
theorem y35_6:(((rowsY 35).drop 120).take 20).all (rowYF Tryz.prog tsC)=true:=by decide+kernel
theorem y35_7:(((rowsY 35).drop 140).take 20).all (rowYF Tryz.prog tsC)=true:=by decide+kernel
theorem y35_8:(((rowsY 35).drop 160).take 20).all (rowYF Tryz.prog tsC)=true:=by decide+kernel
theorem y35_9:(((rowsY 35).drop 180).take 20).all (rowYF Tryz.prog tsC)=true:=by decide+kernel
theorem y35_10:(((rowsY 35).drop 200).take 20).all (rowYF Tryz.prog tsC)=true:=by decide+kernel
theorem y35_11:(((rowsY 35).drop 220).take 20).all (rowYF Tryz.prog tsC)=true:=by decide+kernel
theorem y35_12:(((rowsY 35).drop 240).take 20).all (rowYF Tryz.prog tsC)=true:=by decide+kernel
theorem y35_13:(((rowsY 35).drop 260).take 20).all (rowYF Tryz.prog tsC)=true:=by decide+kernel
theorem y35_14:(((rowsY 35).drop 280).take 20).all (rowYF Tryz.prog tsC)=true:=by decide+kernel
theorem y35_15:(((rowsY 35).drop 300).take 20).all (rowYF Tryz.prog tsC)=true:=by decide+kernel
theorem y35_16:(((rowsY 35).drop 320).take 20).all (rowYF Tryz.prog tsC)=true:=by decide+kernel
theorem y35_17:(((rowsY 35).drop 340).take 20).all (rowYF Tryz.prog tsC)=true:=by decide+kernel
theorem y35_18:(((rowsY 35).drop 360).take 20).all (rowYF Tryz.prog tsC)=true:=by decide+kernel
theorem y35_19:(((rowsY 35).drop 380).take 20).all (rowYF Tryz.prog tsC)=true:=by decide+kernel
end
end Go.Proofs
