/- MeaningFolds: the machine runs these rows of the tables as they tell. -/
import Derived.Test.YthmpeecooedidaaGreatProg
import Derived.Test.YthmpeecooedidaaGreatMe
namespace Go.Proofs
open Go Go.AM
noncomputable section
set_option maxRecDepth 1000000
theorem y21_40:(((rowsY 21).drop 800).take 20).all (rowYF Tryz.prog tsC)=true:=by decide+kernel
theorem y21_41:(((rowsY 21).drop 820).take 20).all (rowYF Tryz.prog tsC)=true:=by decide+kernel
theorem y21_42:(((rowsY 21).drop 840).take 20).all (rowYF Tryz.prog tsC)=true:=by decide+kernel
theorem y21_43:(((rowsY 21).drop 860).take 20).all (rowYF Tryz.prog tsC)=true:=by decide+kernel
theorem y21_44:(((rowsY 21).drop 880).take 20).all (rowYF Tryz.prog tsC)=true:=by decide+kernel
theorem y21_45:(((rowsY 21).drop 900).take 20).all (rowYF Tryz.prog tsC)=true:=by decide+kernel
theorem y21_46:(((rowsY 21).drop 920).take 20).all (rowYF Tryz.prog tsC)=true:=by decide+kernel
theorem y21_47:(((rowsY 21).drop 940).take 20).all (rowYF Tryz.prog tsC)=true:=by decide+kernel
theorem y21_48:(((rowsY 21).drop 960).take 20).all (rowYF Tryz.prog tsC)=true:=by decide+kernel
theorem y21_49:(((rowsY 21).drop 980).take 20).all (rowYF Tryz.prog tsC)=true:=by decide+kernel
theorem y21_50:(((rowsY 21).drop 1000).take 20).all (rowYF Tryz.prog tsC)=true:=by decide+kernel
theorem y21_51:(((rowsY 21).drop 1020).take 20).all (rowYF Tryz.prog tsC)=true:=by decide+kernel
theorem y21_52:(((rowsY 21).drop 1040).take 20).all (rowYF Tryz.prog tsC)=true:=by decide+kernel
theorem y21_53:(((rowsY 21).drop 1060).take 20).all (rowYF Tryz.prog tsC)=true:=by decide+kernel
theorem y21_54:(((rowsY 21).drop 1080).take 20).all (rowYF Tryz.prog tsC)=true:=by decide+kernel
theorem y21_55:(((rowsY 21).drop 1100).take 20).all (rowYF Tryz.prog tsC)=true:=by decide+kernel
theorem y21_56:(((rowsY 21).drop 1120).take 20).all (rowYF Tryz.prog tsC)=true:=by decide+kernel
theorem y21_57:(((rowsY 21).drop 1140).take 20).all (rowYF Tryz.prog tsC)=true:=by decide+kernel
theorem y21_58:(((rowsY 21).drop 1160).take 20).all (rowYF Tryz.prog tsC)=true:=by decide+kernel
theorem y21_59:(((rowsY 21).drop 1180).take 20).all (rowYF Tryz.prog tsC)=true:=by decide+kernel
end
end Go.Proofs
