/- MeaningFolds: the machine runs these rows of the tables as they tell. -/
import Derived.Test.YthmpeecooedidaaGreatProg
import Derived.Test.YthmpeecooedidaaGreatMe
namespace Go.Proofs
open Go Go.AM
noncomputable section
set_option maxRecDepth 1000000
theorem y35_40:(((rowsY 35).drop 800).take 20).all (rowYF Tryz.prog tsC)=true:=by decide+kernel
theorem y35_41:(((rowsY 35).drop 820).take 20).all (rowYF Tryz.prog tsC)=true:=by decide+kernel
theorem y35_42:(((rowsY 35).drop 840).take 20).all (rowYF Tryz.prog tsC)=true:=by decide+kernel
theorem y35_43:(((rowsY 35).drop 860).take 20).all (rowYF Tryz.prog tsC)=true:=by decide+kernel
theorem y35_44:(((rowsY 35).drop 880).take 20).all (rowYF Tryz.prog tsC)=true:=by decide+kernel
theorem y35_45:(((rowsY 35).drop 900).take 20).all (rowYF Tryz.prog tsC)=true:=by decide+kernel
theorem y35_46:(((rowsY 35).drop 920).take 20).all (rowYF Tryz.prog tsC)=true:=by decide+kernel
theorem y35_47:(((rowsY 35).drop 940).take 20).all (rowYF Tryz.prog tsC)=true:=by decide+kernel
theorem y35_48:(((rowsY 35).drop 960).take 20).all (rowYF Tryz.prog tsC)=true:=by decide+kernel
theorem y35_49:(((rowsY 35).drop 980).take 20).all (rowYF Tryz.prog tsC)=true:=by decide+kernel
theorem y35_50:(((rowsY 35).drop 1000).take 20).all (rowYF Tryz.prog tsC)=true:=by decide+kernel
theorem y35_51:(((rowsY 35).drop 1020).take 20).all (rowYF Tryz.prog tsC)=true:=by decide+kernel
theorem y35_52:(((rowsY 35).drop 1040).take 20).all (rowYF Tryz.prog tsC)=true:=by decide+kernel
theorem y35_53:(((rowsY 35).drop 1060).take 20).all (rowYF Tryz.prog tsC)=true:=by decide+kernel
theorem y35_54:(((rowsY 35).drop 1080).take 20).all (rowYF Tryz.prog tsC)=true:=by decide+kernel
theorem y35_55:(((rowsY 35).drop 1100).take 20).all (rowYF Tryz.prog tsC)=true:=by decide+kernel
theorem y35_56:(((rowsY 35).drop 1120).take 20).all (rowYF Tryz.prog tsC)=true:=by decide+kernel
theorem y35_57:(((rowsY 35).drop 1140).take 20).all (rowYF Tryz.prog tsC)=true:=by decide+kernel
theorem y35_58:(((rowsY 35).drop 1160).take 20).all (rowYF Tryz.prog tsC)=true:=by decide+kernel
theorem y35_59:(((rowsY 35).drop 1180).take 20).all (rowYF Tryz.prog tsC)=true:=by decide+kernel
end
end Go.Proofs
