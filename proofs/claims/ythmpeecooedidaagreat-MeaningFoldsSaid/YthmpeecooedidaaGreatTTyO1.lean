/- MeaningFolds: the machine runs these rows of the tables as they tell. -/
import Derived.Test.YthmpeecooedidaaGreatProg
import Derived.Test.YthmpeecooedidaaGreatMe
namespace Go.Proofs
open Go Go.AM
noncomputable section
set_option maxRecDepth 1000000
theorem y35_20:(((rowsY 35).drop 400).take 20).all (rowYF Tryz.prog tsC)=true:=by decide+kernel
theorem y35_21:(((rowsY 35).drop 420).take 20).all (rowYF Tryz.prog tsC)=true:=by decide+kernel
theorem y35_22:(((rowsY 35).drop 440).take 20).all (rowYF Tryz.prog tsC)=true:=by decide+kernel
theorem y35_23:(((rowsY 35).drop 460).take 20).all (rowYF Tryz.prog tsC)=true:=by decide+kernel
theorem y35_24:(((rowsY 35).drop 480).take 20).all (rowYF Tryz.prog tsC)=true:=by decide+kernel
theorem y35_25:(((rowsY 35).drop 500).take 20).all (rowYF Tryz.prog tsC)=true:=by decide+kernel
theorem y35_26:(((rowsY 35).drop 520).take 20).all (rowYF Tryz.prog tsC)=true:=by decide+kernel
theorem y35_27:(((rowsY 35).drop 540).take 20).all (rowYF Tryz.prog tsC)=true:=by decide+kernel
theorem y35_28:(((rowsY 35).drop 560).take 20).all (rowYF Tryz.prog tsC)=true:=by decide+kernel
theorem y35_29:(((rowsY 35).drop 580).take 20).all (rowYF Tryz.prog tsC)=true:=by decide+kernel
theorem y35_30:(((rowsY 35).drop 600).take 20).all (rowYF Tryz.prog tsC)=true:=by decide+kernel
theorem y35_31:(((rowsY 35).drop 620).take 20).all (rowYF Tryz.prog tsC)=true:=by decide+kernel
theorem y35_32:(((rowsY 35).drop 640).take 20).all (rowYF Tryz.prog tsC)=true:=by decide+kernel
theorem y35_33:(((rowsY 35).drop 660).take 20).all (rowYF Tryz.prog tsC)=true:=by decide+kernel
theorem y35_34:(((rowsY 35).drop 680).take 20).all (rowYF Tryz.prog tsC)=true:=by decide+kernel
theorem y35_35:(((rowsY 35).drop 700).take 20).all (rowYF Tryz.prog tsC)=true:=by decide+kernel
theorem y35_36:(((rowsY 35).drop 720).take 20).all (rowYF Tryz.prog tsC)=true:=by decide+kernel
theorem y35_37:(((rowsY 35).drop 740).take 20).all (rowYF Tryz.prog tsC)=true:=by decide+kernel
theorem y35_38:(((rowsY 35).drop 760).take 20).all (rowYF Tryz.prog tsC)=true:=by decide+kernel
theorem y35_39:(((rowsY 35).drop 780).take 20).all (rowYF Tryz.prog tsC)=true:=by decide+kernel
end
end Go.Proofs
