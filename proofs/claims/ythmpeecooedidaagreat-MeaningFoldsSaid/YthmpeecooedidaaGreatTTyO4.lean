/- MeaningFolds: the machine runs these rows of the tables as they tell. -/
import Derived.Test.YthmpeecooedidaaGreatProg
import Derived.Test.YthmpeecooedidaaGreatMe
namespace Go.Proofs
open Go Go.AM
noncomputable section
set_option maxRecDepth 1000000
theorem y35_80:(((rowsY 35).drop 1600).take 20).all (rowYF Tryz.prog tsC)=true:=by decide+kernel
theorem y35_81:(((rowsY 35).drop 1620).take 20).all (rowYF Tryz.prog tsC)=true:=by decide+kernel
theorem y35_82:(((rowsY 35).drop 1640).take 20).all (rowYF Tryz.prog tsC)=true:=by decide+kernel
theorem y35_83:(((rowsY 35).drop 1660).take 20).all (rowYF Tryz.prog tsC)=true:=by decide+kernel
theorem y35_84:(((rowsY 35).drop 1680).take 20).all (rowYF Tryz.prog tsC)=true:=by decide+kernel
theorem y35_85:(((rowsY 35).drop 1700).take 20).all (rowYF Tryz.prog tsC)=true:=by decide+kernel
theorem y35_86:(((rowsY 35).drop 1720).take 20).all (rowYF Tryz.prog tsC)=true:=by decide+kernel
theorem y35_87:(((rowsY 35).drop 1740).take 20).all (rowYF Tryz.prog tsC)=true:=by decide+kernel
theorem y35_88:(((rowsY 35).drop 1760).take 20).all (rowYF Tryz.prog tsC)=true:=by decide+kernel
theorem y35_89:(((rowsY 35).drop 1780).take 20).all (rowYF Tryz.prog tsC)=true:=by decide+kernel
theorem y35_90:(((rowsY 35).drop 1800).take 20).all (rowYF Tryz.prog tsC)=true:=by decide+kernel
theorem y35_91:(((rowsY 35).drop 1820).take 20).all (rowYF Tryz.prog tsC)=true:=by decide+kernel
theorem y35_92:(((rowsY 35).drop 1840).take 20).all (rowYF Tryz.prog tsC)=true:=by decide+kernel
theorem y35_93:(((rowsY 35).drop 1860).take 20).all (rowYF Tryz.prog tsC)=true:=by decide+kernel
theorem y35_94:(((rowsY 35).drop 1880).take 20).all (rowYF Tryz.prog tsC)=true:=by decide+kernel
theorem y35_95:(((rowsY 35).drop 1900).take 20).all (rowYF Tryz.prog tsC)=true:=by decide+kernel
theorem y35_96:(((rowsY 35).drop 1920).take 20).all (rowYF Tryz.prog tsC)=true:=by decide+kernel
theorem y35_97:(((rowsY 35).drop 1940).take 20).all (rowYF Tryz.prog tsC)=true:=by decide+kernel
theorem y35_98:(((rowsY 35).drop 1960).take 20).all (rowYF Tryz.prog tsC)=true:=by decide+kernel
theorem y35_99:(((rowsY 35).drop 1980).take 20).all (rowYF Tryz.prog tsC)=true:=by decide+kernel
end
end Go.Proofs
