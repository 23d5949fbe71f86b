/- MeaningFolds: each of its calls does as its shot tells, from those that call nothing told to the whole. -/
import Derived.Test.YthmpeecooedidaaGreatFST0
import Derived.Test.YthmpeecooedidaaGreatFST1
import Derived.Test.YthmpeecooedidaaGreatFST2
import Derived.Test.YthmpeecooedidaaGreatFST3
import Derived.Test.YthmpeecooedidaaGreatFST4
import Derived.Test.YthmpeecooedidaaGreatFST5
import Derived.Test.YthmpeecooedidaaGreatFST6
import Derived.Test.YthmpeecooedidaaGreatFST7
import Derived.Test.YthmpeecooedidaaGreatFST8
import Derived.Test.YthmpeecooedidaaGreatFST9
import Derived.Test.YthmpeecooedidaaGreatFST10
import Derived.Test.YthmpeecooedidaaGreatFST11
import Derived.Test.YthmpeecooedidaaGreatWa
namespace Go.Proofs
open Go Go.AM
noncomputable section
set_option linter.unusedVariables false
variable {w0:Go.AM.Start}
set_option maxRecDepth 1000000
theorem mixed:Tryz.prog.follows .mixedOrders=true:=Tryz.mixed_orders
theorem kk0 (h:KnownOk Tryz.prog K01 w0):KnownOk Tryz.prog K_0 w0:=h
theorem s0 (h:KnownOk Tryz.prog K01 w0):KOk Tryz.prog w0 (shotK sh0) 34:=shotK_ok (run_shot (kk0 h) mixed (shotRunF_eq r0)) f0
theorem kk1 (h:KnownOk Tryz.prog K01 w0):KnownOk Tryz.prog K_1 w0:=(h.withK (s0 h))
theorem s1 (h:KnownOk Tryz.prog K01 w0):KOk Tryz.prog w0 (shotK sh1) 8:=shotK_ok (run_shot (kk1 h) mixed (shotRunF_eq r1)) f1
theorem kk2 (h:KnownOk Tryz.prog K01 w0) (hT:KnownOk Tryz.prog (topK Tryz.prog esM 5 [tsC,S746,S1266] []) w0):KnownOk Tryz.prog K_2 w0:=hT
theorem s2 (h:KnownOk Tryz.prog K01 w0) (hT:KnownOk Tryz.prog (topK Tryz.prog esM 5 [tsC,S746,S1266] []) w0):KOk Tryz.prog w0 (shotK sh2) 19:=shotK_ok (run_shot (kk2 h hT) mixed (shotRunF_eq r2)) f2
theorem kk3 (h:KnownOk Tryz.prog K01 w0) (hT:KnownOk Tryz.prog (topK Tryz.prog esM 5 [tsC,S746,S1266] []) w0):KnownOk Tryz.prog K_3 w0:=hT
theorem s3 (h:KnownOk Tryz.prog K01 w0) (hT:KnownOk Tryz.prog (topK Tryz.prog esM 5 [tsC,S746,S1266] []) w0):KOk Tryz.prog w0 (shotK sh3) 42:=shotK_ok (run_shot (kk3 h hT) mixed (shotRunF_eq r3)) f3
theorem kk4 (h:KnownOk Tryz.prog K01 w0) (hT:KnownOk Tryz.prog (topK Tryz.prog esM 5 [tsC,S746,S1266] []) w0) (hF:KnownOk Tryz.prog (topK Tryz.prog (pureT (sy 10) [true] false) 5 [tsC,S746,S1266] [wr M11 2 14 5,wr M12 1 18 5]) w0):KnownOk Tryz.prog K_4 w0:=(hF.withK (s3 h hT))
theorem s4 (h:KnownOk Tryz.prog K01 w0) (hT:KnownOk Tryz.prog (topK Tryz.prog esM 5 [tsC,S746,S1266] []) w0) (hF:KnownOk Tryz.prog (topK Tryz.prog (pureT (sy 10) [true] false) 5 [tsC,S746,S1266] [wr M11 2 14 5,wr M12 1 18 5]) w0):KOk Tryz.prog w0 (shotK sh4) 10:=shotK_ok (run_shot (kk4 h hT hF) mixed (shotRunF_eq r4)) f4
theorem kk5 (h:KnownOk Tryz.prog K01 w0) (hT:KnownOk Tryz.prog (topK Tryz.prog esM 5 [tsC,S746,S1266] []) w0) (hF:KnownOk Tryz.prog (topK Tryz.prog (pureT (sy 10) [true] false) 5 [tsC,S746,S1266] [wr M11 2 14 5,wr M12 1 18 5]) w0):KnownOk Tryz.prog K_5 w0:=(((hF.withK (s1 h)).withK (s2 h hT)).withK (s4 h hT hF))
theorem way_r5:FullWay Tryz.prog false 5 S1266 M11 M12 5 5:=fun _ h hT hF=>⟨K_5,kk5 h hT hF,lawRun_of r5⟩
theorem kk6 (h:KnownOk Tryz.prog K01 w0):KnownOk Tryz.prog K_6 w0:=h
theorem s6 (h:KnownOk Tryz.prog K01 w0):KOk Tryz.prog w0 (shotK sh6) 34:=shotK_ok (run_shot (kk6 h) mixed (shotRunF_eq r6)) f6
theorem kk7 (h:KnownOk Tryz.prog K01 w0):KnownOk Tryz.prog K_7 w0:=(h.withK (s6 h))
theorem s7 (h:KnownOk Tryz.prog K01 w0):KOk Tryz.prog w0 (shotK sh7) 8:=shotK_ok (run_shot (kk7 h) mixed (shotRunF_eq r7)) f7
theorem kk8 (h:KnownOk Tryz.prog K01 w0) (hT:KnownOk Tryz.prog (topK Tryz.prog esM 6 [tsC,S746,S1270] []) w0):KnownOk Tryz.prog K_8 w0:=hT
theorem s8 (h:KnownOk Tryz.prog K01 w0) (hT:KnownOk Tryz.prog (topK Tryz.prog esM 6 [tsC,S746,S1270] []) w0):KOk Tryz.prog w0 (shotK sh8) 19:=shotK_ok (run_shot (kk8 h hT) mixed (shotRunF_eq r8)) f8
theorem kk9 (h:KnownOk Tryz.prog K01 w0) (hT:KnownOk Tryz.prog (topK Tryz.prog esM 6 [tsC,S746,S1270] []) w0):KnownOk Tryz.prog K_9 w0:=hT
theorem s9 (h:KnownOk Tryz.prog K01 w0) (hT:KnownOk Tryz.prog (topK Tryz.prog esM 6 [tsC,S746,S1270] []) w0):KOk Tryz.prog w0 (shotK sh9) 42:=shotK_ok (run_shot (kk9 h hT) mixed (shotRunF_eq r9)) f9
theorem kk10 (h:KnownOk Tryz.prog K01 w0) (hT:KnownOk Tryz.prog (topK Tryz.prog esM 6 [tsC,S746,S1270] []) w0) (hF:KnownOk Tryz.prog (topK Tryz.prog (pureT (sy 10) [true] false) 6 [tsC,S746,S1270] [wr M21 2 14 6,wr M22 1 18 6]) w0):KnownOk Tryz.prog K_10 w0:=(hF.withK (s9 h hT))
theorem s10 (h:KnownOk Tryz.prog K01 w0) (hT:KnownOk Tryz.prog (topK Tryz.prog esM 6 [tsC,S746,S1270] []) w0) (hF:KnownOk Tryz.prog (topK Tryz.prog (pureT (sy 10) [true] false) 6 [tsC,S746,S1270] [wr M21 2 14 6,wr M22 1 18 6]) w0):KOk Tryz.prog w0 (shotK sh10) 10:=shotK_ok (run_shot (kk10 h hT hF) mixed (shotRunF_eq r10)) f10
theorem kk11 (h:KnownOk Tryz.prog K01 w0) (hT:KnownOk Tryz.prog (topK Tryz.prog esM 6 [tsC,S746,S1270] []) w0) (hF:KnownOk Tryz.prog (topK Tryz.prog (pureT (sy 10) [true] false) 6 [tsC,S746,S1270] [wr M21 2 14 6,wr M22 1 18 6]) w0):KnownOk Tryz.prog K_11 w0:=(((hF.withK (s7 h)).withK (s8 h hT)).withK (s10 h hT hF))
theorem way_r6:FullWay Tryz.prog false 6 S1270 M21 M22 6 6:=fun _ h hT hF=>⟨K_11,kk11 h hT hF,lawRun_of r11⟩
theorem kk12 (h:KnownOk Tryz.prog K01 w0) (hT:KnownOk Tryz.prog (topK Tryz.prog esM 7 [tsC,S746,S1270] []) w0):KnownOk Tryz.prog K_12 w0:=hT
theorem s12 (h:KnownOk Tryz.prog K01 w0) (hT:KnownOk Tryz.prog (topK Tryz.prog esM 7 [tsC,S746,S1270] []) w0):KOk Tryz.prog w0 (shotK sh12) 19:=shotK_ok (run_shot (kk12 h hT) mixed (shotRunF_eq r12)) f12
theorem kk13 (h:KnownOk Tryz.prog K01 w0) (hT:KnownOk Tryz.prog (topK Tryz.prog esM 7 [tsC,S746,S1270] []) w0):KnownOk Tryz.prog K_13 w0:=hT
theorem s13 (h:KnownOk Tryz.prog K01 w0) (hT:KnownOk Tryz.prog (topK Tryz.prog esM 7 [tsC,S746,S1270] []) w0):KOk Tryz.prog w0 (shotK sh13) 42:=shotK_ok (run_shot (kk13 h hT) mixed (shotRunF_eq r13)) f13
theorem kk14 (h:KnownOk Tryz.prog K01 w0) (hT:KnownOk Tryz.prog (topK Tryz.prog esM 7 [tsC,S746,S1270] []) w0) (hF:KnownOk Tryz.prog (topK Tryz.prog (pureT (sy 10) [true] false) 7 [tsC,S746,S1270] [wr M21 2 14 7,wr M22 1 18 7]) w0):KnownOk Tryz.prog K_14 w0:=(hF.withK (s13 h hT))
theorem s14 (h:KnownOk Tryz.prog K01 w0) (hT:KnownOk Tryz.prog (topK Tryz.prog esM 7 [tsC,S746,S1270] []) w0) (hF:KnownOk Tryz.prog (topK Tryz.prog (pureT (sy 10) [true] false) 7 [tsC,S746,S1270] [wr M21 2 14 7,wr M22 1 18 7]) w0):KOk Tryz.prog w0 (shotK sh14) 10:=shotK_ok (run_shot (kk14 h hT hF) mixed (shotRunF_eq r14)) f14
theorem kk15 (h:KnownOk Tryz.prog K01 w0) (hT:KnownOk Tryz.prog (topK Tryz.prog esM 7 [tsC,S746,S1270] []) w0) (hF:KnownOk Tryz.prog (topK Tryz.prog (pureT (sy 10) [true] false) 7 [tsC,S746,S1270] [wr M21 2 14 7,wr M22 1 18 7]) w0):KnownOk Tryz.prog K_15 w0:=(((hF.withK (s7 h)).withK (s12 h hT)).withK (s14 h hT hF))
theorem way_r7:FullWay Tryz.prog false 7 S1270 M21 M22 7 7:=fun _ h hT hF=>⟨K_15,kk15 h hT hF,lawRun_of r15⟩
theorem kk16 (h:KnownOk Tryz.prog K01 w0):KnownOk Tryz.prog K_16 w0:=h
theorem s16 (h:KnownOk Tryz.prog K01 w0):KOk Tryz.prog w0 (shotK sh16) 34:=shotK_ok (run_shot (kk16 h) mixed (shotRunF_eq r16)) f16
theorem kk17 (h:KnownOk Tryz.prog K01 w0):KnownOk Tryz.prog K_17 w0:=(h.withK (s16 h))
theorem s17 (h:KnownOk Tryz.prog K01 w0):KOk Tryz.prog w0 (shotK sh17) 8:=shotK_ok (run_shot (kk17 h) mixed (shotRunF_eq r17)) f17
theorem kk18 (h:KnownOk Tryz.prog K01 w0) (hT:KnownOk Tryz.prog (topK Tryz.prog esM 8 [tsC,S746,S1268] []) w0):KnownOk Tryz.prog K_18 w0:=hT
theorem s18 (h:KnownOk Tryz.prog K01 w0) (hT:KnownOk Tryz.prog (topK Tryz.prog esM 8 [tsC,S746,S1268] []) w0):KOk Tryz.prog w0 (shotK sh18) 19:=shotK_ok (run_shot (kk18 h hT) mixed (shotRunF_eq r18)) f18
theorem kk19 (h:KnownOk Tryz.prog K01 w0) (hT:KnownOk Tryz.prog (topK Tryz.prog esM 8 [tsC,S746,S1268] []) w0):KnownOk Tryz.prog K_19 w0:=hT
theorem s19 (h:KnownOk Tryz.prog K01 w0) (hT:KnownOk Tryz.prog (topK Tryz.prog esM 8 [tsC,S746,S1268] []) w0):KOk Tryz.prog w0 (shotK sh19) 42:=shotK_ok (run_shot (kk19 h hT) mixed (shotRunF_eq r19)) f19
theorem kk20 (h:KnownOk Tryz.prog K01 w0) (hT:KnownOk Tryz.prog (topK Tryz.prog esM 8 [tsC,S746,S1268] []) w0) (hF:KnownOk Tryz.prog (topK Tryz.prog (pureT (sy 10) [true] false) 8 [tsC,S746,S1268] [wr M31 2 14 8,wr M32 1 18 8]) w0):KnownOk Tryz.prog K_20 w0:=(hF.withK (s19 h hT))
theorem s20 (h:KnownOk Tryz.prog K01 w0) (hT:KnownOk Tryz.prog (topK Tryz.prog esM 8 [tsC,S746,S1268] []) w0) (hF:KnownOk Tryz.prog (topK Tryz.prog (pureT (sy 10) [true] false) 8 [tsC,S746,S1268] [wr M31 2 14 8,wr M32 1 18 8]) w0):KOk Tryz.prog w0 (shotK sh20) 10:=shotK_ok (run_shot (kk20 h hT hF) mixed (shotRunF_eq r20)) f20
theorem kk21 (h:KnownOk Tryz.prog K01 w0) (hT:KnownOk Tryz.prog (topK Tryz.prog esM 8 [tsC,S746,S1268] []) w0) (hF:KnownOk Tryz.prog (topK Tryz.prog (pureT (sy 10) [true] false) 8 [tsC,S746,S1268] [wr M31 2 14 8,wr M32 1 18 8]) w0):KnownOk Tryz.prog K_21 w0:=(((hF.withK (s17 h)).withK (s18 h hT)).withK (s20 h hT hF))
theorem way_r88:FullWay Tryz.prog false 8 S1268 M31 M32 8 8:=fun _ h hT hF=>⟨K_21,kk21 h hT hF,lawRun_of r21⟩
theorem kk22 (h:KnownOk Tryz.prog K01 w0) (hT:KnownOk Tryz.prog (topK Tryz.prog esM 8 [tsC,S746,S1268] []) w0) (hF:KnownOk Tryz.prog (topK Tryz.prog (pureT (sy 10) [true] true) 8 [tsC,S746,S1268] [wr M31 2 14 8,wr M32 1 18 11]) w0):KnownOk Tryz.prog K_22 w0:=(hF.withK (s19 h hT))
theorem s22 (h:KnownOk Tryz.prog K01 w0) (hT:KnownOk Tryz.prog (topK Tryz.prog esM 8 [tsC,S746,S1268] []) w0) (hF:KnownOk Tryz.prog (topK Tryz.prog (pureT (sy 10) [true] true) 8 [tsC,S746,S1268] [wr M31 2 14 8,wr M32 1 18 11]) w0):KOk Tryz.prog w0 (shotK sh22) 10:=shotK_ok (run_shot (kk22 h hT hF) mixed (shotRunF_eq r22)) f22
theorem kk23 (h:KnownOk Tryz.prog K01 w0) (hT:KnownOk Tryz.prog (topK Tryz.prog esM 8 [tsC,S746,S1268] []) w0) (hF:KnownOk Tryz.prog (topK Tryz.prog (pureT (sy 10) [true] true) 8 [tsC,S746,S1268] [wr M31 2 14 8,wr M32 1 18 11]) w0):KnownOk Tryz.prog K_23 w0:=(((hF.withK (s17 h)).withK (s18 h hT)).withK (s22 h hT hF))
theorem way_r8b:FullWay Tryz.prog true 8 S1268 M31 M32 8 11:=fun _ h hT hF=>⟨K_23,kk23 h hT hF,lawRun_of r23⟩
theorem kk24 (h:KnownOk Tryz.prog K01 w0) (hT:KnownOk Tryz.prog (topK Tryz.prog esM 8 [tsC,S746,S1268] []) w0) (hF:KnownOk Tryz.prog (topK Tryz.prog (pureT (sy 10) [true] true) 8 [tsC,S746,S1268] [wr M31 2 14 11,wr M32 1 18 8]) w0):KnownOk Tryz.prog K_24 w0:=(hF.withK (s19 h hT))
theorem s24 (h:KnownOk Tryz.prog K01 w0) (hT:KnownOk Tryz.prog (topK Tryz.prog esM 8 [tsC,S746,S1268] []) w0) (hF:KnownOk Tryz.prog (topK Tryz.prog (pureT (sy 10) [true] true) 8 [tsC,S746,S1268] [wr M31 2 14 11,wr M32 1 18 8]) w0):KOk Tryz.prog w0 (shotK sh24) 10:=shotK_ok (run_shot (kk24 h hT hF) mixed (shotRunF_eq r24)) f24
theorem kk25 (h:KnownOk Tryz.prog K01 w0) (hT:KnownOk Tryz.prog (topK Tryz.prog esM 8 [tsC,S746,S1268] []) w0) (hF:KnownOk Tryz.prog (topK Tryz.prog (pureT (sy 10) [true] true) 8 [tsC,S746,S1268] [wr M31 2 14 11,wr M32 1 18 8]) w0):KnownOk Tryz.prog K_25 w0:=(((hF.withK (s17 h)).withK (s18 h hT)).withK (s24 h hT hF))
theorem way_rb8:FullWay Tryz.prog true 8 S1268 M31 M32 11 8:=fun _ h hT hF=>⟨K_25,kk25 h hT hF,lawRun_of r25⟩
theorem kk26 (h:KnownOk Tryz.prog K01 w0) (hT:KnownOk Tryz.prog (topK Tryz.prog esM 8 [tsC,S746,S1268] []) w0) (hF:KnownOk Tryz.prog (topK Tryz.prog (pureT (sy 10) [true] true) 8 [tsC,S746,S1268] [wr M31 2 14 11,wr M32 1 18 11]) w0):KnownOk Tryz.prog K_26 w0:=(hF.withK (s19 h hT))
theorem s26 (h:KnownOk Tryz.prog K01 w0) (hT:KnownOk Tryz.prog (topK Tryz.prog esM 8 [tsC,S746,S1268] []) w0) (hF:KnownOk Tryz.prog (topK Tryz.prog (pureT (sy 10) [true] true) 8 [tsC,S746,S1268] [wr M31 2 14 11,wr M32 1 18 11]) w0):KOk Tryz.prog w0 (shotK sh26) 10:=shotK_ok (run_shot (kk26 h hT hF) mixed (shotRunF_eq r26)) f26
theorem kk27 (h:KnownOk Tryz.prog K01 w0) (hT:KnownOk Tryz.prog (topK Tryz.prog esM 8 [tsC,S746,S1268] []) w0) (hF:KnownOk Tryz.prog (topK Tryz.prog (pureT (sy 10) [true] true) 8 [tsC,S746,S1268] [wr M31 2 14 11,wr M32 1 18 11]) w0):KnownOk Tryz.prog K_27 w0:=(((hF.withK (s17 h)).withK (s18 h hT)).withK (s26 h hT hF))
theorem way_rbb:FullWay Tryz.prog true 8 S1268 M31 M32 11 11:=fun _ h hT hF=>⟨K_27,kk27 h hT hF,lawRun_of r27⟩
theorem kk28 (h:KnownOk Tryz.prog K01 w0):KnownOk Tryz.prog K_28 w0:=h
theorem s28 (h:KnownOk Tryz.prog K01 w0):KOk Tryz.prog w0 (shotK sh28) 34:=shotK_ok (run_shot (kk28 h) mixed (shotRunF_eq r28)) f28
theorem kk29 (h:KnownOk Tryz.prog K01 w0):KnownOk Tryz.prog K_29 w0:=(h.withK (s28 h))
theorem s29 (h:KnownOk Tryz.prog K01 w0):KOk Tryz.prog w0 (shotK sh29) 8:=shotK_ok (run_shot (kk29 h) mixed (shotRunF_eq r29)) f29
theorem kk30 (h:KnownOk Tryz.prog K01 w0) (hT:KnownOk Tryz.prog (topK Tryz.prog esM 9 [tsC,S746,S1271] []) w0):KnownOk Tryz.prog K_30 w0:=hT
theorem s30 (h:KnownOk Tryz.prog K01 w0) (hT:KnownOk Tryz.prog (topK Tryz.prog esM 9 [tsC,S746,S1271] []) w0):KOk Tryz.prog w0 (shotK sh30) 19:=shotK_ok (run_shot (kk30 h hT) mixed (shotRunF_eq r30)) f30
theorem kk31 (h:KnownOk Tryz.prog K01 w0) (hT:KnownOk Tryz.prog (topK Tryz.prog esM 9 [tsC,S746,S1271] []) w0):KnownOk Tryz.prog K_31 w0:=hT
theorem s31 (h:KnownOk Tryz.prog K01 w0) (hT:KnownOk Tryz.prog (topK Tryz.prog esM 9 [tsC,S746,S1271] []) w0):KOk Tryz.prog w0 (shotK sh31) 42:=shotK_ok (run_shot (kk31 h hT) mixed (shotRunF_eq r31)) f31
theorem kk32 (h:KnownOk Tryz.prog K01 w0) (hT:KnownOk Tryz.prog (topK Tryz.prog esM 9 [tsC,S746,S1271] []) w0) (hF:KnownOk Tryz.prog (topK Tryz.prog (pureT (sy 10) [true] false) 9 [tsC,S746,S1271] [wr M51 2 14 9,wr M52 1 18 9]) w0):KnownOk Tryz.prog K_32 w0:=(hF.withK (s31 h hT))
theorem s32 (h:KnownOk Tryz.prog K01 w0) (hT:KnownOk Tryz.prog (topK Tryz.prog esM 9 [tsC,S746,S1271] []) w0) (hF:KnownOk Tryz.prog (topK Tryz.prog (pureT (sy 10) [true] false) 9 [tsC,S746,S1271] [wr M51 2 14 9,wr M52 1 18 9]) w0):KOk Tryz.prog w0 (shotK sh32) 10:=shotK_ok (run_shot (kk32 h hT hF) mixed (shotRunF_eq r32)) f32
theorem kk33 (h:KnownOk Tryz.prog K01 w0) (hT:KnownOk Tryz.prog (topK Tryz.prog esM 9 [tsC,S746,S1271] []) w0) (hF:KnownOk Tryz.prog (topK Tryz.prog (pureT (sy 10) [true] false) 9 [tsC,S746,S1271] [wr M51 2 14 9,wr M52 1 18 9]) w0):KnownOk Tryz.prog K_33 w0:=(((hF.withK (s29 h)).withK (s30 h hT)).withK (s32 h hT hF))
theorem way_r9:FullWay Tryz.prog false 9 S1271 M51 M52 9 9:=fun _ h hT hF=>⟨K_33,kk33 h hT hF,lawRun_of r33⟩
theorem kk34 (h:KnownOk Tryz.prog K01 w0) (hT:KnownOk Tryz.prog (topK Tryz.prog esM 11 [tsC,S746,S1271] []) w0):KnownOk Tryz.prog K_34 w0:=hT
theorem s34 (h:KnownOk Tryz.prog K01 w0) (hT:KnownOk Tryz.prog (topK Tryz.prog esM 11 [tsC,S746,S1271] []) w0):KOk Tryz.prog w0 (shotK sh34) 19:=shotK_ok (run_shot (kk34 h hT) mixed (shotRunF_eq r34)) f34
theorem kk35 (h:KnownOk Tryz.prog K01 w0) (hT:KnownOk Tryz.prog (topK Tryz.prog esM 11 [tsC,S746,S1271] []) w0):KnownOk Tryz.prog K_35 w0:=hT
theorem s35 (h:KnownOk Tryz.prog K01 w0) (hT:KnownOk Tryz.prog (topK Tryz.prog esM 11 [tsC,S746,S1271] []) w0):KOk Tryz.prog w0 (shotK sh35) 42:=shotK_ok (run_shot (kk35 h hT) mixed (shotRunF_eq r35)) f35
theorem kk36 (h:KnownOk Tryz.prog K01 w0) (hT:KnownOk Tryz.prog (topK Tryz.prog esM 11 [tsC,S746,S1271] []) w0) (hF:KnownOk Tryz.prog (topK Tryz.prog (pureT (sy 10) [true] true) 11 [tsC,S746,S1271] [wr M51 2 14 11,wr M52 1 18 11]) w0):KnownOk Tryz.prog K_36 w0:=(hF.withK (s35 h hT))
theorem s36 (h:KnownOk Tryz.prog K01 w0) (hT:KnownOk Tryz.prog (topK Tryz.prog esM 11 [tsC,S746,S1271] []) w0) (hF:KnownOk Tryz.prog (topK Tryz.prog (pureT (sy 10) [true] true) 11 [tsC,S746,S1271] [wr M51 2 14 11,wr M52 1 18 11]) w0):KOk Tryz.prog w0 (shotK sh36) 10:=shotK_ok (run_shot (kk36 h hT hF) mixed (shotRunF_eq r36)) f36
theorem kk37 (h:KnownOk Tryz.prog K01 w0) (hT:KnownOk Tryz.prog (topK Tryz.prog esM 11 [tsC,S746,S1271] []) w0) (hF:KnownOk Tryz.prog (topK Tryz.prog (pureT (sy 10) [true] true) 11 [tsC,S746,S1271] [wr M51 2 14 11,wr M52 1 18 11]) w0):KnownOk Tryz.prog K_37 w0:=(((hF.withK (s17 h)).withK (s34 h hT)).withK (s36 h hT hF))
theorem way_r11:FullWay Tryz.prog true 11 S1271 M51 M52 11 11:=fun _ h hT hF=>⟨K_37,kk37 h hT hF,lawRun_of r37⟩
theorem kk38 (h:KnownOk Tryz.prog K01 w0):KnownOk Tryz.prog K_38 w0:=h
theorem s38 (h:KnownOk Tryz.prog K01 w0):KOk Tryz.prog w0 (shotK sh38) 34:=shotK_ok (run_shot (kk38 h) mixed (shotRunF_eq r38)) f38
theorem kk39 (h:KnownOk Tryz.prog K01 w0):KnownOk Tryz.prog K_39 w0:=(h.withK (s38 h))
theorem s39 (h:KnownOk Tryz.prog K01 w0):KOk Tryz.prog w0 (shotK sh39) 11:=shotK_ok (run_shot (kk39 h) mixed (shotRunF_eq r39)) f39
theorem kk40 (h:KnownOk Tryz.prog K01 w0):KnownOk Tryz.prog K_40 w0:=h
theorem s40 (h:KnownOk Tryz.prog K01 w0):KOk Tryz.prog w0 (shotK sh40) 34:=shotK_ok (run_shot (kk40 h) mixed (shotRunF_eq r40)) f40
theorem kk41 (h:KnownOk Tryz.prog K01 w0):KnownOk Tryz.prog K_41 w0:=h
theorem s41 (h:KnownOk Tryz.prog K01 w0):KOk Tryz.prog w0 (shotK sh41) 42:=shotK_ok (run_shot (kk41 h) mixed (shotRunF_eq r41)) f41
theorem kk42 (h:KnownOk Tryz.prog K01 w0):KnownOk Tryz.prog K_42 w0:=((h.withK (s40 h)).withK (s41 h))
theorem s42 (h:KnownOk Tryz.prog K01 w0):KOk Tryz.prog w0 (shotK sh42) 11:=shotK_ok (run_shot (kk42 h) mixed (shotRunF_eq r42)) f42
theorem kk43 (h:KnownOk Tryz.prog K01 w0):KnownOk Tryz.prog K_43 w0:=h
theorem s43 (h:KnownOk Tryz.prog K01 w0):KOk Tryz.prog w0 (shotK sh43) 34:=shotK_ok (run_shot (kk43 h) mixed (shotRunF_eq r43)) f43
theorem kk44 (h:KnownOk Tryz.prog K01 w0):KnownOk Tryz.prog K_44 w0:=(h.withK (s43 h))
theorem s44 (h:KnownOk Tryz.prog K01 w0):KOk Tryz.prog w0 (shotK sh44) 11:=shotK_ok (run_shot (kk44 h) mixed (shotRunF_eq r44)) f44
theorem kk45 (h:KnownOk Tryz.prog K01 w0):KnownOk Tryz.prog K_45 w0:=(h.withK (orK_ok (s39 h) (orK_ok (s42 h) (s44 h))))
theorem known_ok {W:World} (h:KnownOk Tryz.prog K01 (.of W)):RealPure Tryz.prog W 5 [] (.bool true):=ShotOk.pure (run_shot (kk45 h) mixed (shotRunF_eq r45)) rfl
end
end Go.Proofs
