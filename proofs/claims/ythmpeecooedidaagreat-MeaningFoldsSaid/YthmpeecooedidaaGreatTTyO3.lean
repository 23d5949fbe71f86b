/- MeaningFolds: the machine runs these rows of the tables as they tell. -/
import Derived.Test.YthmpeecooedidaaGreatProg
import Derived.Test.YthmpeecooedidaaGreatMe
namespace Go.Proofs
open Go Go.AM
noncomputable section
set_option maxRecDepth 1000000
theorem y35_60:(((rowsY 35).drop 1200).take 20).all (rowYF Tryz.prog tsC)=true:=by decide+kernel
theorem y35_61:(((rowsY 35).drop 1220).take 20).all (rowYF Tryz.prog tsC)=true:=by decide+kernel
theorem y35_62:(((rowsY 35).drop 1240).take 20).all (rowYF Tryz.prog tsC)=true:=by decide+kernel
theorem y35_63:(((rowsY 35).drop 1260).take 20).all (rowYF Tryz.prog tsC)=true:=by decide+kernel
theorem y35_64:(((rowsY 35).drop 1280).take 20).all (rowYF Tryz.prog tsC)=true:=by decide+kernel
theorem y35_65:(((rowsY 35).drop 1300).take 20).all (rowYF Tryz.prog tsC)=true:=by decide+kernel
theorem y35_66:(((rowsY 35).drop 1320).take 20).all (rowYF Tryz.prog tsC)=true:=by decide+kernel
theorem y35_67:(((rowsY 35).drop 1340).take 20).all (rowYF Tryz.prog tsC)=true:=by decide+kernel
theorem y35_68:(((rowsY 35).drop 1360).take 20).all (rowYF Tryz.prog tsC)=true:=by decide+kernel
theorem y35_69:(((rowsY 35).drop 1380).take 20).all (rowYF Tryz.prog tsC)=true:=by decide+kernel
theorem y35_70:(((rowsY 35).drop 1400).take 20).all (rowYF Tryz.prog tsC)=true:=by decide+kernel
theorem y35_71:(((rowsY 35).drop 1420).take 20).all (rowYF Tryz.prog tsC)=true:=by decide+kernel
theorem y35_72:(((rowsY 35).drop 1440).take 20).all (rowYF Tryz.prog tsC)=true:=by decide+kernel
theorem y35_73:(((rowsY 35).drop 1460).take 20).all (rowYF Tryz.prog tsC)=true:=by decide+kernel
theorem y35_74:(((rowsY 35).drop 1480).take 20).all (rowYF Tryz.prog tsC)=true:=by decide+kernel
theorem y35_75:(((rowsY 35).drop 1500).take 20).all (rowYF Tryz.prog tsC)=true:=by decide+kernel
theorem y35_76:(((rowsY 35).drop 1520).take 20).all (rowYF Tryz.prog tsC)=true:=by decide+kernel
theorem y35_77:(((rowsY 35).drop 1540).take 20).all (rowYF Tryz.prog tsC)=true:=by decide+kernel
theorem y35_78:(((rowsY 35).drop 1560).take 20).all (rowYF Tryz.prog tsC)=true:=by decide+kernel
theorem y35_79:(((rowsY 35).drop 1580).take 20).all (rowYF Tryz.prog tsC)=true:=by decide+kernel
end
end Go.Proofs
