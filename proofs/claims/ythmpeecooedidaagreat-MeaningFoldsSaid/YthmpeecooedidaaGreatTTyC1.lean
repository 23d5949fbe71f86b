/- MeaningFolds: the machine runs these rows of the tables as they tell. -/
import Derived.Test.YthmpeecooedidaaGreatProg
import Derived.Test.YthmpeecooedidaaGreatMe
namespace Go.Proofs
open Go Go.AM
noncomputable section
set_option maxRecDepth 1000000
theorem y21_20:(((rowsY 21).drop 400).take 20).all (rowYF Tryz.prog tsC)=true:=by decide+kernel
theorem y21_21:(((rowsY 21).drop 420).take 20).all (rowYF Tryz.prog tsC)=true:=by decide+kernel
theorem y21_22:(((rowsY 21).drop 440).take 20).all (rowYF Tryz.prog tsC)=true:=by decide+kernel
theorem y21_23:(((rowsY 21).drop 460).take 20).all (rowYF Tryz.prog tsC)=true:=by decide+kernel
theorem y21_24:(((rowsY 21).drop 480).take 20).all (rowYF Tryz.prog tsC)=true:=by decide+kernel
theorem y21_25:(((rowsY 21).drop 500).take 20).all (rowYF Tryz.prog tsC)=true:=by decide+kernel
theorem y21_26:(((rowsY 21).drop 520).take 20).all (rowYF Tryz.prog tsC)=true:=by decide+kernel
theorem y21_27:(((rowsY 21).drop 540).take 20).all (rowYF Tryz.prog tsC)=true:=by decide+kernel
theorem y21_28:(((rowsY 21).drop 560).take 20).all (rowYF Tryz.prog tsC)=true:=by decide+kernel
theorem y21_29:(((rowsY 21).drop 580).take 20).all (rowYF Tryz.prog tsC)=true:=by decide+kernel
theorem y21_30:(((rowsY 21).drop 600).take 20).all (rowYF Tryz.prog tsC)=true:=by decide+kernel
theorem y21_31:(((rowsY 21).drop 620).take 20).all (rowYF Tryz.prog tsC)=true:=by decide+kernel
theorem y21_32:(((rowsY 21).drop 640).take 20).all (rowYF Tryz.prog tsC)=true:=by decide+kernel
theorem y21_33:(((rowsY 21).drop 660).take 20).all (rowYF Tryz.prog tsC)=true:=by decide+kernel
theorem y21_34:(((rowsY 21).drop 680).take 20).all (rowYF Tryz.prog tsC)=true:=by decide+kernel
theorem y21_35:(((rowsY 21).drop 700).take 20).all (rowYF Tryz.prog tsC)=true:=by decide+kernel
theorem y21_36:(((rowsY 21).drop 720).take 20).all (rowYF Tryz.prog tsC)=true:=by decide+kernel
theorem y21_37:(((rowsY 21).drop 740).take 20).all (rowYF Tryz.prog tsC)=true:=by decide+kernel
theorem y21_38:(((rowsY 21).drop 760).take 20).all (rowYF Tryz.prog tsC)=true:=by decide+kernel
theorem y21_39:(((rowsY 21).drop 780).take 20).all (rowYF Tryz.prog tsC)=true:=by decide+kernel
end
end Go.Proofs
