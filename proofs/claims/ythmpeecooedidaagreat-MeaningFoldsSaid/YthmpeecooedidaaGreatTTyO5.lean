/- MeaningFolds: the machine runs these rows of the tables as they tell. -/
import Derived.Test.YthmpeecooedidaaGreatProg
import Derived.Test.YthmpeecooedidaaGreatMe
namespace Go.Proofs
open Go Go.AM
noncomputable section
set_option maxRecDepth 1000000
theorem y35_100:(((rowsY 35).drop 2000).take 20).all (rowYF Tryz.prog tsC)=true:=by decide+kernel
theorem y35_101:(((rowsY 35).drop 2020).take 20).all (rowYF Tryz.prog tsC)=true:=by decide+kernel
theorem y35_102:(((rowsY 35).drop 2040).take 20).all (rowYF Tryz.prog tsC)=true:=by decide+kernel
theorem y35_103:(((rowsY 35).drop 2060).take 20).all (rowYF Tryz.prog tsC)=true:=by decide+kernel
theorem y35_104:(((rowsY 35).drop 2080).take 20).all (rowYF Tryz.prog tsC)=true:=by decide+kernel
theorem y35_105:(((rowsY 35).drop 2100).take 20).all (rowYF Tryz.prog tsC)=true:=by decide+kernel
theorem y35_106:(((rowsY 35).drop 2120).take 20).all (rowYF Tryz.prog tsC)=true:=by decide+kernel
theorem y35_107:(((rowsY 35).drop 2140).take 20).all (rowYF Tryz.prog tsC)=true:=by decide+kernel
theorem y35_108:(((rowsY 35).drop 2160).take 20).all (rowYF Tryz.prog tsC)=true:=by decide+kernel
theorem y35_109:(((rowsY 35).drop 2180).take 20).all (rowYF Tryz.prog tsC)=true:=by decide+kernel
theorem y35_110:(((rowsY 35).drop 2200).take 20).all (rowYF Tryz.prog tsC)=true:=by decide+kernel
theorem y35_111:(((rowsY 35).drop 2220).take 20).all (rowYF Tryz.prog tsC)=true:=by decide+kernel
theorem y35_112:(((rowsY 35).drop 2240).take 20).all (rowYF Tryz.prog tsC)=true:=by decide+kernel
theorem y35_113:(((rowsY 35).drop 2260).take 20).all (rowYF Tryz.prog tsC)=true:=by decide+kernel
theorem y35_114:(((rowsY 35).drop 2280).take 20).all (rowYF Tryz.prog tsC)=true:=by decide+kernel
theorem y35_115:(((rowsY 35).drop 2300).take 20).all (rowYF Tryz.prog tsC)=true:=by decide+kernel
theorem y35_116:(((rowsY 35).drop 2320).take 20).all (rowYF Tryz.prog tsC)=true:=by decide+kernel
theorem y35_117:(((rowsY 35).drop 2340).take 20).all (rowYF Tryz.prog tsC)=true:=by decide+kernel
theorem y35_118:(((rowsY 35).drop 2360).take 20).all (rowYF Tryz.prog tsC)=true:=by decide+kernel
theorem y35_119:(((rowsY 35).drop 2380).take 20).all (rowYF Tryz.prog tsC)=true:=by decide+kernel
end
end Go.Proofs
