/- MeaningFolds: the machine runs these rows of the tables as they tell. -/
import Derived.Test.YthmpeecooedidaaGreatProg
import Derived.Test.YthmpeecooedidaaGreatMe
namespace Go.Proofs
open Go Go.AM
noncomputable section
set_option maxRecDepth 1000000
theorem yProc_0:(((rowsG procT).drop 0).take 40).all (rowPF Tryz.prog tsC)=true:=by decide+kernel
theorem yProc_1:(((rowsG procT).drop 40).take 40).all (rowPF Tryz.prog tsC)=true:=by decide+kernel
theorem yProc_2:(((rowsG procT).drop 80).take 40).all (rowPF Tryz.prog tsC)=true:=by decide+kernel
theorem yMod_0:(((rowsG modT).drop 0).take 40).all (rowMF Tryz.prog tsC)=true:=by decide+kernel
theorem yMod_1:(((rowsG modT).drop 40).take 40).all (rowMF Tryz.prog tsC)=true:=by decide+kernel
theorem yMod_2:(((rowsG modT).drop 80).take 40).all (rowMF Tryz.prog tsC)=true:=by decide+kernel
theorem yRest:(List.range 64).all (fun k=>Nat.beq k 21||Nat.beq k 35||Nat.beq k 27||Nat.beq k 11||tabYF Tryz.prog tsC k)=true:=by decide+kernel
theorem y27_0:(((rowsY 27).drop 0).take 60).all (rowYF Tryz.prog tsC)=true:=by decide+kernel
theorem y27_1:(((rowsY 27).drop 60).take 60).all (rowYF Tryz.prog tsC)=true:=by decide+kernel
theorem y27_2:(((rowsY 27).drop 120).take 60).all (rowYF Tryz.prog tsC)=true:=by decide+kernel
theorem y27_3:(((rowsY 27).drop 180).take 60).all (rowYF Tryz.prog tsC)=true:=by decide+kernel
theorem y27_4:(((rowsY 27).drop 240).take 60).all (rowYF Tryz.prog tsC)=true:=by decide+kernel
theorem y11_0:(((rowsY 11).drop 0).take 30).all (rowYF Tryz.prog tsC)=true:=by decide+kernel
theorem y11_1:(((rowsY 11).drop 30).take 30).all (rowYF Tryz.prog tsC)=true:=by decide+kernel
end
end Go.Proofs
