/- MeaningFolds: the tables, joined. -/
import Derived.Test.YthmpeecooedidaaGreatTTree
import Derived.Test.YthmpeecooedidaaGreatTlen
import Derived.Test.YthmpeecooedidaaGreatTTyP
import Derived.Test.YthmpeecooedidaaGreatTTyC0
import Derived.Test.YthmpeecooedidaaGreatTTyC1
import Derived.Test.YthmpeecooedidaaGreatTTyC2
import Derived.Test.YthmpeecooedidaaGreatTTyO0
import Derived.Test.YthmpeecooedidaaGreatTTyO1
import Derived.Test.YthmpeecooedidaaGreatTTyO2
import Derived.Test.YthmpeecooedidaaGreatTTyO3
import Derived.Test.YthmpeecooedidaaGreatTTyO4
import Derived.Test.YthmpeecooedidaaGreatTTyO5
import Derived.Test.YthmpeecooedidaaGreatTKt746
import Derived.Test.YthmpeecooedidaaGreatTKt1266
import Derived.Test.YthmpeecooedidaaGreatTKt1268
import Derived.Test.YthmpeecooedidaaGreatTKt1270
import Derived.Test.YthmpeecooedidaaGreatTKt1271
import Derived.Test.YthmpeecooedidaaGreatTMn0
import Derived.Test.YthmpeecooedidaaGreatTMn1
import Derived.Test.YthmpeecooedidaaGreatTMn2
import Derived.Test.YthmpeecooedidaaGreatTMn3
namespace Go.Proofs
open Go Go.AM
noncomputable section
set_option maxRecDepth 1000000
theorem tDes:(rowsK candT desT (desT 64)).all (rowTF Tryz.prog 154)=true:=by
  have h:((rowsK candT desT (desT 64)).drop 0).all (rowTF Tryz.prog 154)=true:=all_cut (b:=60) rfl tDes_0 (all_cut (b:=120) rfl tDes_1 (all_end (by rw[tDes_len];decide) tDes_2))
  rwa [List.drop_zero]at h
theorem tFac:(rowsK candT facT (facT 64)).all (rowTF Tryz.prog 53)=true:=by
  have h:((rowsK candT facT (facT 64)).drop 0).all (rowTF Tryz.prog 53)=true:=all_cut (b:=60) rfl tFac_0 (all_cut (b:=120) rfl tFac_1 (all_cut (b:=180) rfl tFac_2 (all_end (by rw[tFac_len];decide) tFac_3)))
  rwa [List.drop_zero]at h
theorem tLev:(rowsK candT levT (levT 64)).all (rowTF Tryz.prog 21)=true:=by
  have h:((rowsK candT levT (levT 64)).drop 0).all (rowTF Tryz.prog 21)=true:=all_cut (b:=60) rfl tLev_0 (all_cut (b:=120) rfl tLev_1 (all_cut (b:=180) rfl tLev_2 (all_cut (b:=240) rfl tLev_3 (all_cut (b:=300) rfl tLev_4 (all_cut (b:=360) rfl tLev_5 (all_cut (b:=420) rfl tLev_6 (all_cut (b:=480) rfl tLev_7 (all_cut (b:=540) rfl tLev_8 (all_cut (b:=600) rfl tLev_9 (all_cut (b:=660) rfl tLev_10 (all_cut (b:=720) rfl tLev_11 (all_end (by rw[tLev_len];decide) tLev_12))))))))))))
  rwa [List.drop_zero]at h
theorem tMay:(rowsK candT mayT (mayT 64)).all (rowTF Tryz.prog 12)=true:=by
  have h:((rowsK candT mayT (mayT 64)).drop 0).all (rowTF Tryz.prog 12)=true:=all_cut (b:=60) rfl tMay_0 (all_cut (b:=120) rfl tMay_1 (all_cut (b:=180) rfl tMay_2 (all_cut (b:=240) rfl tMay_3 (all_cut (b:=300) rfl tMay_4 (all_end (by rw[tMay_len];decide) tMay_5)))))
  rwa [List.drop_zero]at h
theorem yProc:(rowsG procT).all (rowPF Tryz.prog tsC)=true:=by
  have h:((rowsG procT).drop 0).all (rowPF Tryz.prog tsC)=true:=all_cut (b:=40) rfl yProc_0 (all_cut (b:=80) rfl yProc_1 (all_end (by rw[yProc_len];decide) yProc_2))
  rwa [List.drop_zero]at h
theorem yMod:(rowsG modT).all (rowMF Tryz.prog tsC)=true:=by
  have h:((rowsG modT).drop 0).all (rowMF Tryz.prog tsC)=true:=all_cut (b:=40) rfl yMod_0 (all_cut (b:=80) rfl yMod_1 (all_end (by rw[yMod_len];decide) yMod_2))
  rwa [List.drop_zero]at h
theorem y27:(rowsY 27).all (rowYF Tryz.prog tsC)=true:=by
  have h:((rowsY 27).drop 0).all (rowYF Tryz.prog tsC)=true:=all_cut (b:=60) rfl y27_0 (all_cut (b:=120) rfl y27_1 (all_cut (b:=180) rfl y27_2 (all_cut (b:=240) rfl y27_3 (all_end (by rw[y27_len];decide) y27_4))))
  rwa [List.drop_zero]at h
theorem y11:(rowsY 11).all (rowYF Tryz.prog tsC)=true:=by
  have h:((rowsY 11).drop 0).all (rowYF Tryz.prog tsC)=true:=all_cut (b:=30) rfl y11_0 (all_end (by rw[y11_len];decide) y11_1)
  rwa [List.drop_zero]at h
theorem y21:(rowsY 21).all (rowYF Tryz.prog tsC)=true:=by
  have h:((rowsY 21).drop 0).all (rowYF Tryz.prog tsC)=true:=all_cut (b:=20) rfl y21_0 (all_cut (b:=40) rfl y21_1 (all_cut (b:=60) rfl y21_2 (all_cut (b:=80) rfl y21_3 (all_cut (b:=100) rfl y21_4 (all_cut (b:=120) rfl y21_5 (all_cut (b:=140) rfl y21_6 (all_cut (b:=160) rfl y21_7 (all_cut (b:=180) rfl y21_8 (all_cut (b:=200) rfl y21_9 (all_cut (b:=220) rfl y21_10 (all_cut (b:=240) rfl y21_11 (all_cut (b:=260) rfl y21_12 (all_cut (b:=280) rfl y21_13 (all_cut (b:=300) rfl y21_14 (all_cut (b:=320) rfl y21_15 (all_cut (b:=340) rfl y21_16 (all_cut (b:=360) rfl y21_17 (all_cut (b:=380) rfl y21_18 (all_cut (b:=400) rfl y21_19 (all_cut (b:=420) rfl y21_20 (all_cut (b:=440) rfl y21_21 (all_cut (b:=460) rfl y21_22 (all_cut (b:=480) rfl y21_23 (all_cut (b:=500) rfl y21_24 (all_cut (b:=520) rfl y21_25 (all_cut (b:=540) rfl y21_26 (all_cut (b:=560) rfl y21_27 (all_cut (b:=580) rfl y21_28 (all_cut (b:=600) rfl y21_29 (all_cut (b:=620) rfl y21_30 (all_cut (b:=640) rfl y21_31 (all_cut (b:=660) rfl y21_32 (all_cut (b:=680) rfl y21_33 (all_cut (b:=700) rfl y21_34 (all_cut (b:=720) rfl y21_35 (all_cut (b:=740) rfl y21_36 (all_cut (b:=760) rfl y21_37 (all_cut (b:=780) rfl y21_38 (all_cut (b:=800) rfl y21_39 (all_cut (b:=820) rfl y21_40 (all_cut (b:=840) rfl y21_41 (all_cut (b:=860) rfl y21_42 (all_cut (b:=880) rfl y21_43 (all_cut (b:=900) rfl y21_44 (all_cut (b:=920) rfl y21_45 (all_cut (b:=940) rfl y21_46 (all_cut (b:=960) rfl y21_47 (all_cut (b:=980) rfl y21_48 (all_cut (b:=1000) rfl y21_49 (all_cut (b:=1020) rfl y21_50 (all_cut (b:=1040) rfl y21_51 (all_cut (b:=1060) rfl y21_52 (all_cut (b:=1080) rfl y21_53 (all_cut (b:=1100) rfl y21_54 (all_cut (b:=1120) rfl y21_55 (all_cut (b:=1140) rfl y21_56 (all_cut (b:=1160) rfl y21_57 (all_cut (b:=1180) rfl y21_58 (all_end (by rw[y21_len];decide) y21_59)))))))))))))))))))))))))))))))))))))))))))))))))))))))))))
  rwa [List.drop_zero]at h
theorem y35:(rowsY 35).all (rowYF Tryz.prog tsC)=true:=by
  have h:((rowsY 35).drop 0).all (rowYF Tryz.prog tsC)=true:=all_cut (b:=20) rfl y35_0 (all_cut (b:=40) rfl y35_1 (all_cut (b:=60) rfl y35_2 (all_cut (b:=80) rfl y35_3 (all_cut (b:=100) rfl y35_4 (all_cut (b:=120) rfl y35_5 (all_cut (b:=140) rfl y35_6 (all_cut (b:=160) rfl y35_7 (all_cut (b:=180) rfl y35_8 (all_cut (b:=200) rfl y35_9 (all_cut (b:=220) rfl y35_10 (all_cut (b:=240) rfl y35_11 (all_cut (b:=260) rfl y35_12 (all_cut (b:=280) rfl y35_13 (all_cut (b:=300) rfl y35_14 (all_cut (b:=320) rfl y35_15 (all_cut (b:=340) rfl y35_16 (all_cut (b:=360) rfl y35_17 (all_cut (b:=380) rfl y35_18 (all_cut (b:=400) rfl y35_19 (all_cut (b:=420) rfl y35_20 (all_cut (b:=440) rfl y35_21 (all_cut (b:=460) rfl y35_22 (all_cut (b:=480) rfl y35_23 (all_cut (b:=500) rfl y35_24 (all_cut (b:=520) rfl y35_25 (all_cut (b:=540) rfl y35_26 (all_cut (b:=560) rfl y35_27 (all_cut (b:=580) rfl y35_28 (all_cut (b:=600) rfl y35_29 (all_cut (b:=620) rfl y35_30 (all_cut (b:=640) rfl y35_31 (all_cut (b:=660) rfl y35_32 (all_cut (b:=680) rfl y35_33 (all_cut (b:=700) rfl y35_34 (all_cut (b:=720) rfl y35_35 (all_cut (b:=740) rfl y35_36 (all_cut (b:=760) rfl y35_37 (all_cut (b:=780) rfl y35_38 (all_cut (b:=800) rfl y35_39 (all_cut (b:=820) rfl y35_40 (all_cut (b:=840) rfl y35_41 (all_cut (b:=860) rfl y35_42 (all_cut (b:=880) rfl y35_43 (all_cut (b:=900) rfl y35_44 (all_cut (b:=920) rfl y35_45 (all_cut (b:=940) rfl y35_46 (all_cut (b:=960) rfl y35_47 (all_cut (b:=980) rfl y35_48 (all_cut (b:=1000) rfl y35_49 (all_cut (b:=1020) rfl y35_50 (all_cut (b:=1040) rfl y35_51 (all_cut (b:=1060) rfl y35_52 (all_cut (b:=1080) rfl y35_53 (all_cut (b:=1100) rfl y35_54 (all_cut (b:=1120) rfl y35_55 (all_cut (b:=1140) rfl y35_56 (all_cut (b:=1160) rfl y35_57 (all_cut (b:=1180) rfl y35_58 (all_cut (b:=1200) rfl y35_59 (all_cut (b:=1220) rfl y35_60 (all_cut (b:=1240) rfl y35_61 (all_cut (b:=1260) rfl y35_62 (all_cut (b:=1280) rfl y35_63 (all_cut (b:=1300) rfl y35_64 (all_cut (b:=1320) rfl y35_65 (all_cut (b:=1340) rfl y35_66 (all_cut (b:=1360) rfl y35_67 (all_cut (b:=1380) rfl y35_68 (all_cut (b:=1400) rfl y35_69 (all_cut (b:=1420) rfl y35_70 (all_cut (b:=1440) rfl y35_71 (all_cut (b:=1460) rfl y35_72 (all_cut (b:=1480) rfl y35_73 (all_cut (b:=1500) rfl y35_74 (all_cut (b:=1520) rfl y35_75 (all_cut (b:=1540) rfl y35_76 (all_cut (b:=1560) rfl y35_77 (all_cut (b:=1580) rfl y35_78 (all_cut (b:=1600) rfl y35_79 (all_cut (b:=1620) rfl y35_80 (all_cut (b:=1640) rfl y35_81 (all_cut (b:=1660) rfl y35_82 (all_cut (b:=1680) rfl y35_83 (all_cut (b:=1700) rfl y35_84 (all_cut (b:=1720) rfl y35_85 (all_cut (b:=1740) rfl y35_86 (all_cut (b:=1760) rfl y35_87 (all_cut (b:=1780) rfl y35_88 (all_cut (b:=1800) rfl y35_89 (all_cut (b:=1820) rfl y35_90 (all_cut (b:=1840) rfl y35_91 (all_cut (b:=1860) rfl y35_92 (all_cut (b:=1880) rfl y35_93 (all_cut (b:=1900) rfl y35_94 (all_cut (b:=1920) rfl y35_95 (all_cut (b:=1940) rfl y35_96 (all_cut (b:=1960) rfl y35_97 (all_cut (b:=1980) rfl y35_98 (all_cut (b:=2000) rfl y35_99 (all_cut (b:=2020) rfl y35_100 (all_cut (b:=2040) rfl y35_101 (all_cut (b:=2060) rfl y35_102 (all_cut (b:=2080) rfl y35_103 (all_cut (b:=2100) rfl y35_104 (all_cut (b:=2120) rfl y35_105 (all_cut (b:=2140) rfl y35_106 (all_cut (b:=2160) rfl y35_107 (all_cut (b:=2180) rfl y35_108 (all_cut (b:=2200) rfl y35_109 (all_cut (b:=2220) rfl y35_110 (all_cut (b:=2240) rfl y35_111 (all_cut (b:=2260) rfl y35_112 (all_cut (b:=2280) rfl y35_113 (all_cut (b:=2300) rfl y35_114 (all_cut (b:=2320) rfl y35_115 (all_cut (b:=2340) rfl y35_116 (all_cut (b:=2360) rfl y35_117 (all_cut (b:=2380) rfl y35_118 (all_end (by rw[y35_len];decide) y35_119)))))))))))))))))))))))))))))))))))))))))))))))))))))))))))))))))))))))))))))))))))))))))))))))))))))))))))))))))))))))
  rwa [List.drop_zero]at h
theorem k746:(rowsKY).all (rowKYF Tryz.prog S746)=true:=by
  have h:((rowsKY).drop 0).all (rowKYF Tryz.prog S746)=true:=all_cut (b:=20) rfl k746_0 (all_cut (b:=40) rfl k746_1 (all_end (by rw[k746_len];decide) k746_2))
  rwa [List.drop_zero]at h
theorem b746:((List.range 256).map rowTxt).all (rowKYF Tryz.prog S746)=true:=by
  have h:(((List.range 256).map rowTxt).drop 0).all (rowKYF Tryz.prog S746)=true:=all_cut (b:=40) rfl b746_0 (all_cut (b:=80) rfl b746_1 (all_cut (b:=120) rfl b746_2 (all_cut (b:=160) rfl b746_3 (all_cut (b:=200) rfl b746_4 (all_cut (b:=240) rfl b746_5 (all_end (by rw[b746_len];decide) b746_6))))))
  rwa [List.drop_zero]at h
theorem k1266:(rowsKY).all (rowKYF Tryz.prog S1266)=true:=by
  have h:((rowsKY).drop 0).all (rowKYF Tryz.prog S1266)=true:=all_cut (b:=20) rfl k1266_0 (all_cut (b:=40) rfl k1266_1 (all_end (by rw[k1266_len];decide) k1266_2))
  rwa [List.drop_zero]at h
theorem b1266:((List.range 256).map rowTxt).all (rowKYF Tryz.prog S1266)=true:=by
  have h:(((List.range 256).map rowTxt).drop 0).all (rowKYF Tryz.prog S1266)=true:=all_cut (b:=40) rfl b1266_0 (all_cut (b:=80) rfl b1266_1 (all_cut (b:=120) rfl b1266_2 (all_cut (b:=160) rfl b1266_3 (all_cut (b:=200) rfl b1266_4 (all_cut (b:=240) rfl b1266_5 (all_end (by rw[b1266_len];decide) b1266_6))))))
  rwa [List.drop_zero]at h
theorem k1268:(rowsKY).all (rowKYF Tryz.prog S1268)=true:=by
  have h:((rowsKY).drop 0).all (rowKYF Tryz.prog S1268)=true:=all_cut (b:=20) rfl k1268_0 (all_cut (b:=40) rfl k1268_1 (all_end (by rw[k1268_len];decide) k1268_2))
  rwa [List.drop_zero]at h
theorem b1268:((List.range 256).map rowTxt).all (rowKYF Tryz.prog S1268)=true:=by
  have h:(((List.range 256).map rowTxt).drop 0).all (rowKYF Tryz.prog S1268)=true:=all_cut (b:=40) rfl b1268_0 (all_cut (b:=80) rfl b1268_1 (all_cut (b:=120) rfl b1268_2 (all_cut (b:=160) rfl b1268_3 (all_cut (b:=200) rfl b1268_4 (all_cut (b:=240) rfl b1268_5 (all_end (by rw[b1268_len];decide) b1268_6))))))
  rwa [List.drop_zero]at h
theorem k1270:(rowsKY).all (rowKYF Tryz.prog S1270)=true:=by
  have h:((rowsKY).drop 0).all (rowKYF Tryz.prog S1270)=true:=all_cut (b:=20) rfl k1270_0 (all_cut (b:=40) rfl k1270_1 (all_end (by rw[k1270_len];decide) k1270_2))
  rwa [List.drop_zero]at h
theorem b1270:((List.range 256).map rowTxt).all (rowKYF Tryz.prog S1270)=true:=by
  have h:(((List.range 256).map rowTxt).drop 0).all (rowKYF Tryz.prog S1270)=true:=all_cut (b:=40) rfl b1270_0 (all_cut (b:=80) rfl b1270_1 (all_cut (b:=120) rfl b1270_2 (all_cut (b:=160) rfl b1270_3 (all_cut (b:=200) rfl b1270_4 (all_cut (b:=240) rfl b1270_5 (all_end (by rw[b1270_len];decide) b1270_6))))))
  rwa [List.drop_zero]at h
theorem k1271:(rowsKY).all (rowKYF Tryz.prog S1271)=true:=by
  have h:((rowsKY).drop 0).all (rowKYF Tryz.prog S1271)=true:=all_cut (b:=20) rfl k1271_0 (all_cut (b:=40) rfl k1271_1 (all_end (by rw[k1271_len];decide) k1271_2))
  rwa [List.drop_zero]at h
theorem b1271:((List.range 256).map rowTxt).all (rowKYF Tryz.prog S1271)=true:=by
  have h:(((List.range 256).map rowTxt).drop 0).all (rowKYF Tryz.prog S1271)=true:=all_cut (b:=40) rfl b1271_0 (all_cut (b:=80) rfl b1271_1 (all_cut (b:=120) rfl b1271_2 (all_cut (b:=160) rfl b1271_3 (all_cut (b:=200) rfl b1271_4 (all_cut (b:=240) rfl b1271_5 (all_end (by rw[b1271_len];decide) b1271_6))))))
  rwa [List.drop_zero]at h
theorem m11:(rowsM).all (rowRunMF Tryz.prog M11)=true:=by
  have h:((rowsM).drop 0).all (rowRunMF Tryz.prog M11)=true:=all_cut (b:=15) rfl m11_0 (all_cut (b:=30) rfl m11_1 (all_end (by rw[m11_len];decide) m11_2))
  rwa [List.drop_zero]at h
theorem m12:(rowsM).all (rowRunMF Tryz.prog M12)=true:=by
  have h:((rowsM).drop 0).all (rowRunMF Tryz.prog M12)=true:=all_cut (b:=15) rfl m12_0 (all_cut (b:=30) rfl m12_1 (all_end (by rw[m12_len];decide) m12_2))
  rwa [List.drop_zero]at h
theorem m21:(rowsM).all (rowRunMF Tryz.prog M21)=true:=by
  have h:((rowsM).drop 0).all (rowRunMF Tryz.prog M21)=true:=all_cut (b:=15) rfl m21_0 (all_cut (b:=30) rfl m21_1 (all_end (by rw[m21_len];decide) m21_2))
  rwa [List.drop_zero]at h
theorem m22:(rowsM).all (rowRunMF Tryz.prog M22)=true:=by
  have h:((rowsM).drop 0).all (rowRunMF Tryz.prog M22)=true:=all_cut (b:=15) rfl m22_0 (all_cut (b:=30) rfl m22_1 (all_end (by rw[m22_len];decide) m22_2))
  rwa [List.drop_zero]at h
theorem m31:(rowsM).all (rowRunMF Tryz.prog M31)=true:=by
  have h:((rowsM).drop 0).all (rowRunMF Tryz.prog M31)=true:=all_cut (b:=15) rfl m31_0 (all_cut (b:=30) rfl m31_1 (all_end (by rw[m31_len];decide) m31_2))
  rwa [List.drop_zero]at h
theorem m32:(rowsM).all (rowRunMF Tryz.prog M32)=true:=by
  have h:((rowsM).drop 0).all (rowRunMF Tryz.prog M32)=true:=all_cut (b:=15) rfl m32_0 (all_cut (b:=30) rfl m32_1 (all_end (by rw[m32_len];decide) m32_2))
  rwa [List.drop_zero]at h
theorem m51:(rowsM).all (rowRunMF Tryz.prog M51)=true:=by
  have h:((rowsM).drop 0).all (rowRunMF Tryz.prog M51)=true:=all_cut (b:=15) rfl m51_0 (all_cut (b:=30) rfl m51_1 (all_end (by rw[m51_len];decide) m51_2))
  rwa [List.drop_zero]at h
theorem m52:(rowsM).all (rowRunMF Tryz.prog M52)=true:=by
  have h:((rowsM).drop 0).all (rowRunMF Tryz.prog M52)=true:=all_cut (b:=15) rfl m52_0 (all_cut (b:=30) rfl m52_1 (all_end (by rw[m52_len];decide) m52_2))
  rwa [List.drop_zero]at h
end
end Go.Proofs
