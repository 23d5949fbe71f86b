/- MeaningFolds: the machine runs these rows of the tables as they tell. -/
import Derived.Test.YthmpeecooedidaaGreatProg
import Derived.Test.YthmpeecooedidaaGreatMe
namespace Go.Proofs
open Go Go.AM
noncomputable section
set_option maxRecDepth 1000000
theorem tDes_0:(((rowsK candT desT (desT 64)).drop 0).take 60).all (rowTF Tryz.prog 154)=true:=by decide+kernel
theorem tDes_1:(((rowsK candT desT (desT 64)).drop 60).take 60).all (rowTF Tryz.prog 154)=true:=by decide+kernel
theorem tDes_2:(((rowsK candT desT (desT 64)).drop 120).take 60).all (rowTF Tryz.prog 154)=true:=by decide+kernel
theorem tFac_0:(((rowsK candT facT (facT 64)).drop 0).take 60).all (rowTF Tryz.prog 53)=true:=by decide+kernel
theorem tFac_1:(((rowsK candT facT (facT 64)).drop 60).take 60).all (rowTF Tryz.prog 53)=true:=by decide+kernel
theorem tFac_2:(((rowsK candT facT (facT 64)).drop 120).take 60).all (rowTF Tryz.prog 53)=true:=by decide+kernel
theorem tFac_3:(((rowsK candT facT (facT 64)).drop 180).take 60).all (rowTF Tryz.prog 53)=true:=by decide+kernel
theorem tLev_0:(((rowsK candT levT (levT 64)).drop 0).take 60).all (rowTF Tryz.prog 21)=true:=by decide+kernel
theorem tLev_1:(((rowsK candT levT (levT 64)).drop 60).take 60).all (rowTF Tryz.prog 21)=true:=by decide+kernel
theorem tLev_2:(((rowsK candT levT (levT 64)).drop 120).take 60).all (rowTF Tryz.prog 21)=true:=by decide+kernel
theorem tLev_3:(((rowsK candT levT (levT 64)).drop 180).take 60).all (rowTF Tryz.prog 21)=true:=by decide+kernel
theorem tLev_4:(((rowsK candT levT (levT 64)).drop 240).take 60).all (rowTF Tryz.prog 21)=true:=by decide+kernel
theorem tLev_5:(((rowsK candT levT (levT 64)).drop 300).take 60).all (rowTF Tryz.prog 21)=true:=by decide+kernel
theorem tLev_6:(((rowsK candT levT (levT 64)).drop 360).take 60).all (rowTF Tryz.prog 21)=true:=by decide+kernel
theorem tLev_7:(((rowsK candT levT (levT 64)).drop 420).take 60).all (rowTF Tryz.prog 21)=true:=by decide+kernel
theorem tLev_8:(((rowsK candT levT (levT 64)).drop 480).take 60).all (rowTF Tryz.prog 21)=true:=by decide+kernel
theorem tLev_9:(((rowsK candT levT (levT 64)).drop 540).take 60).all (rowTF Tryz.prog 21)=true:=by decide+kernel
theorem tLev_10:(((rowsK candT levT (levT 64)).drop 600).take 60).all (rowTF Tryz.prog 21)=true:=by decide+kernel
theorem tLev_11:(((rowsK candT levT (levT 64)).drop 660).take 60).all (rowTF Tryz.prog 21)=true:=by decide+kernel
theorem tLev_12:(((rowsK candT levT (levT 64)).drop 720).take 60).all (rowTF Tryz.prog 21)=true:=by decide+kernel
theorem tMay_0:(((rowsK candT mayT (mayT 64)).drop 0).take 60).all (rowTF Tryz.prog 12)=true:=by decide+kernel
theorem tMay_1:(((rowsK candT mayT (mayT 64)).drop 60).take 60).all (rowTF Tryz.prog 12)=true:=by decide+kernel
theorem tMay_2:(((rowsK candT mayT (mayT 64)).drop 120).take 60).all (rowTF Tryz.prog 12)=true:=by decide+kernel
theorem tMay_3:(((rowsK candT mayT (mayT 64)).drop 180).take 60).all (rowTF Tryz.prog 12)=true:=by decide+kernel
theorem tMay_4:(((rowsK candT mayT (mayT 64)).drop 240).take 60).all (rowTF Tryz.prog 12)=true:=by decide+kernel
theorem tMay_5:(((rowsK candT mayT (mayT 64)).drop 300).take 60).all (rowTF Tryz.prog 12)=true:=by decide+kernel
end
end Go.Proofs
