/- MeaningFolds: the machine runs these rows of the tables as they tell. -/
import Derived.Test.YthmpeecooedidaaGreatProg
import Derived.Test.YthmpeecooedidaaGreatMe
namespace Go.Proofs
open Go Go.AM
noncomputable section
set_option maxRecDepth 1000000
theorem y21_0:(((rowsY 21).drop 0).take 20).all (rowYF Tryz.prog tsC)=true:=by decide+kernel
theorem y21_1:(((rowsY 21).drop 20).take 20).all (rowYF Tryz.prog tsC)=true:=by decide+kernel
theorem y21_2:(((rowsY 21).drop 40).take 20).all (rowYF Tryz.prog tsC)=true:=by decide+kernel
theorem y21_3:(((rowsY 21).drop 60).take 20).all (rowYF Tryz.prog tsC)=true:=by decide+kernel
theorem y21_4:(((rowsY 21).drop 80).take 20).all (rowYF Tryz.prog tsC)=true:=by decide+kernel
theorem y21_5:(((rowsY 21).drop 100).take 20).all (rowYF Tryz.prog tsC)=true:=by decide+kernel
theorem y21_6:(((rowsY 21).drop 120).take 20).all (rowYF Tryz.prog tsC)=true:=by decide+kernel
theorem y21_7:(((rowsY 21).drop 140).take 20).all (rowYF Tryz.prog tsC)=true:=by decide+kernel
theorem y21_8:(((rowsY 21).drop 160).take 20).all (rowYF Tryz.prog tsC)=true:=by decide+kernel
theorem y21_9:(((rowsY 21).drop 180).take 20).all (rowYF Tryz.prog tsC)=true:=by decide+kernel
theorem y21_10:(((rowsY 21).drop 200).take 20).all (rowYF Tryz.prog tsC)=true:=by decide+kernel
theorem y21_11:(((rowsY 21).drop 220).take 20).all (rowYF Tryz.prog tsC)=true:=by decide+kernel
theorem y21_12:(((rowsY 21).drop 240).take 20).all (rowYF Tryz.prog tsC)=true:=by decide+kernel
theorem y21_13:(((rowsY 21).drop 260).take 20).all (rowYF Tryz.prog tsC)=true:=by decide+kernel
theorem y21_14:(((rowsY 21).drop 280).take 20).all (rowYF Tryz.prog tsC)=true:=by decide+kernel
theorem y21_15:(((rowsY 21).drop 300).take 20).all (rowYF Tryz.prog tsC)=true:=by decide+kernel
theorem y21_16:(((rowsY 21).drop 320).take 20).all (rowYF Tryz.prog tsC)=true:=by decide+kernel
theorem y21_17:(((rowsY 21).drop 340).take 20).all (rowYF Tryz.prog tsC)=true:=by decide+kernel
theorem y21_18:(((rowsY 21).drop 360).take 20).all (rowYF Tryz.prog tsC)=true:=by decide+kernel
theorem y21_19:(((rowsY 21).drop 380).take 20).all (rowYF Tryz.prog tsC)=true:=by decide+kernel
end
end Go.Proofs
