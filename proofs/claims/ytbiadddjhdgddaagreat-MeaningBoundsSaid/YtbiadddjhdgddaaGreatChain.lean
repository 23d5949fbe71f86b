/- MeaningBounds: each of its calls does as its shot tells, from those that call nothing told to the whole. Conditions: the world has the shape that the form asks of it. -/
import Derived.Test.YtbiadddjhdgddaaGreatWalks
import Derived.Test.YtbiadddjhdgddaaGreatRecT
import Derived.Test.YtbiadddjhdgddaaGreatShotsT0
import Derived.Test.YtbiadddjhdgddaaGreatShotsT1
import Derived.Test.YtbiadddjhdgddaaGreatShotsT2
import Derived.Test.YtbiadddjhdgddaaGreatShotsT3
import Derived.Test.YtbiadddjhdgddaaGreatShotsT4
import Derived.Test.YtbiadddjhdgddaaGreatShotsT5
import Derived.Test.YtbiadddjhdgddaaGreatShotsT6
import Derived.Test.YtbiadddjhdgddaaGreatShotsT7
import Derived.Test.YtbiadddjhdgddaaGreatShotsT8
import Derived.Test.YtbiadddjhdgddaaGreatShotsT9
import Derived.Test.YtbiadddjhdgddaaGreatShotsT10
import Derived.Test.YtbiadddjhdgddaaGreatShotsT11
import Derived.Test.YtbiadddjhdgddaaGreatShotsT12
import Derived.Test.YtbiadddjhdgddaaGreatShotsT13
import Derived.Test.YtbiadddjhdgddaaGreatShotsT14
import Derived.Test.YtbiadddjhdgddaaGreatShotsT15
import Derived.Test.YtbiadddjhdgddaaGreatShotsT16
import Derived.Test.YtbiadddjhdgddaaGreatShotsT17
namespace Go.Proofs
open Go Go.AM
set_option maxRecDepth 1000000
theorem kk00 (W : World) (h : W.ShapedOpen Tryz.prog) : KnownOk Tryz.prog K00 (.of W) := ((noK_ok (w0 := .of W)).withK (Tryz.k_contains W h)).withK (Tryz.k_clone W)
theorem kkA (W : World) (h : W.ShapedOpen Tryz.prog) : KnownOk Tryz.prog (withK K00 126 kAdd) (.of W) := (kk00 W h).withK (Tryz.k_add W)
theorem kk01 (W : World) (h : W.ShapedOpen Tryz.prog) : KnownOk Tryz.prog K01 (.of W) := (kk00 W h).withK (forkK_ok (kk00 W h) Tryz.mixed_orders 5000 false 248)
theorem sP (W : World) (h : W.ShapedOpen Tryz.prog) : ShotOk Tryz.prog (.of W) 113 (lit recP 1366 1367 3 1) := rec_all (kk00 W h) (kkA W h) Tryz.mixed_orders oP (shotRunF_eq rP) (shotRunF_eq bP) lP 1998 (by omega)
theorem sQ (W : World) (h : W.ShapedOpen Tryz.prog) : ShotOk Tryz.prog (.of W) 113 (lit recQ 2338 2337 2 1) := rec_all (kk00 W h) (kkA W h) Tryz.mixed_orders oQ (shotRunF_eq rQ) (shotRunF_eq bQ) lQ 1998 (by omega)
theorem kk_0 (W : World) (h : W.ShapedOpen Tryz.prog) : KnownOk Tryz.prog K_0 (.of W) := (kk01 W h)
theorem s0 (W : World) (h : W.ShapedOpen Tryz.prog) : ShotOk Tryz.prog (.of W) 13 sh0 := run_shot (kk_0 W h) Tryz.mixed_orders (shotRunF_eq r0)
theorem kk_1 (W : World) (h : W.ShapedOpen Tryz.prog) : KnownOk Tryz.prog K_1 (.of W) := (kk01 W h)
theorem s1 (W : World) (h : W.ShapedOpen Tryz.prog) : ShotOk Tryz.prog (.of W) 14 sh1 := run_shot (kk_1 W h) Tryz.mixed_orders (shotRunF_eq r1)
theorem kk_2 (W : World) (h : W.ShapedOpen Tryz.prog) : KnownOk Tryz.prog K_2 (.of W) := (kk01 W h)
theorem s2 (W : World) (h : W.ShapedOpen Tryz.prog) : ShotOk Tryz.prog (.of W) 45 sh2 := run_shot (kk_2 W h) Tryz.mixed_orders (shotRunF_eq r2)
theorem kk_3 (W : World) (h : W.ShapedOpen Tryz.prog) : KnownOk Tryz.prog K_3 (.of W) := ((kk01 W h).withK (shotK_ok (s2 W h) f2))
theorem s3 (W : World) (h : W.ShapedOpen Tryz.prog) : ShotOk Tryz.prog (.of W) 11 sh3 := run_shot (kk_3 W h) Tryz.mixed_orders (shotRunF_eq r3)
theorem kk_5 (W : World) (h : W.ShapedOpen Tryz.prog) : KnownOk Tryz.prog K_5 (.of W) := (((((kk01 W h).withK (shotK_ok (s0 W h) f0)).withK (shotK_ok (s1 W h) f1)).withK (shotK_ok (s3 W h) f3)).withK (shotK_ok (sP W h) fP))
theorem s5 (W : World) (h : W.ShapedOpen Tryz.prog) : ShotOk Tryz.prog (.of W) 4 sh5 := run_shot (kk_5 W h) Tryz.mixed_orders (shotRunF_eq r5)
theorem kk_6 (W : World) (h : W.ShapedOpen Tryz.prog) : KnownOk Tryz.prog K_6 (.of W) := (kk01 W h)
theorem s6 (W : World) (h : W.ShapedOpen Tryz.prog) : ShotOk Tryz.prog (.of W) 13 sh6 := run_shot (kk_6 W h) Tryz.mixed_orders (shotRunF_eq r6)
theorem kk_7 (W : World) (h : W.ShapedOpen Tryz.prog) : KnownOk Tryz.prog K_7 (.of W) := (kk01 W h)
theorem s7 (W : World) (h : W.ShapedOpen Tryz.prog) : ShotOk Tryz.prog (.of W) 21 sh7 := run_shot (kk_7 W h) Tryz.mixed_orders (shotRunF_eq r7)
theorem kk_9 (W : World) (h : W.ShapedOpen Tryz.prog) : KnownOk Tryz.prog K_9 (.of W) := ((((kk01 W h).withK (shotK_ok (s6 W h) f6)).withK (shotK_ok (s7 W h) f7)).withK (shotK_ok (sQ W h) fQ))
theorem s9 (W : World) (h : W.ShapedOpen Tryz.prog) : ShotOk Tryz.prog (.of W) 4 sh9 := run_shot (kk_9 W h) Tryz.mixed_orders (shotRunF_eq r9)
theorem kk_10 (W : World) (h : W.ShapedOpen Tryz.prog) : KnownOk Tryz.prog K_10 (.of W) := (kk01 W h)
theorem s10 (W : World) (h : W.ShapedOpen Tryz.prog) : ShotOk Tryz.prog (.of W) 13 sh10 := run_shot (kk_10 W h) Tryz.mixed_orders (shotRunF_eq r10)
theorem kk_11 (W : World) (h : W.ShapedOpen Tryz.prog) : KnownOk Tryz.prog K_11 (.of W) := (kk01 W h)
theorem s11 (W : World) (h : W.ShapedOpen Tryz.prog) : ShotOk Tryz.prog (.of W) 16 sh11 := run_shot (kk_11 W h) Tryz.mixed_orders (shotRunF_eq r11)
theorem kk_12 (W : World) (h : W.ShapedOpen Tryz.prog) : KnownOk Tryz.prog K_12 (.of W) := (kk01 W h)
theorem s12 (W : World) (h : W.ShapedOpen Tryz.prog) : ShotOk Tryz.prog (.of W) 45 sh12 := run_shot (kk_12 W h) Tryz.mixed_orders (shotRunF_eq r12)
theorem kk_13 (W : World) (h : W.ShapedOpen Tryz.prog) : KnownOk Tryz.prog K_13 (.of W) := ((kk01 W h).withK (shotK_ok (s12 W h) f12))
theorem s13 (W : World) (h : W.ShapedOpen Tryz.prog) : ShotOk Tryz.prog (.of W) 21 sh13 := run_shot (kk_13 W h) Tryz.mixed_orders (shotRunF_eq r13)
theorem kk_14 (W : World) (h : W.ShapedOpen Tryz.prog) : KnownOk Tryz.prog K_14 (.of W) := ((kk01 W h).withK (shotK_ok (s13 W h) f13))
theorem s14 (W : World) (h : W.ShapedOpen Tryz.prog) : ShotOk Tryz.prog (.of W) 11 sh14 := run_shot (kk_14 W h) Tryz.mixed_orders (shotRunF_eq r14)
theorem kk_15 (W : World) (h : W.ShapedOpen Tryz.prog) : KnownOk Tryz.prog K_15 (.of W) := (kk01 W h)
theorem s15 (W : World) (h : W.ShapedOpen Tryz.prog) : ShotOk Tryz.prog (.of W) 50 sh15 := run_shot (kk_15 W h) Tryz.mixed_orders (shotRunF_eq r15)
theorem kk_16 (W : World) (h : W.ShapedOpen Tryz.prog) : KnownOk Tryz.prog K_16 (.of W) := (((((kk01 W h).withK (shotK_ok (s10 W h) f10)).withK (shotK_ok (s11 W h) f11)).withK (shotK_ok (s14 W h) f14)).withK (shotK_ok (s15 W h) f15))
theorem s16 (W : World) (h : W.ShapedOpen Tryz.prog) : ShotOk Tryz.prog (.of W) 4 sh16 := run_shot (kk_16 W h) Tryz.mixed_orders (shotRunF_eq r16)
theorem kk_17 (W : World) (h : W.ShapedOpen Tryz.prog) : KnownOk Tryz.prog K_17 (.of W) := (kk01 W h)
theorem s17 (W : World) (h : W.ShapedOpen Tryz.prog) : ShotOk Tryz.prog (.of W) 13 sh17 := run_shot (kk_17 W h) Tryz.mixed_orders (shotRunF_eq r17)
theorem kk_18 (W : World) (h : W.ShapedOpen Tryz.prog) : KnownOk Tryz.prog K_18 (.of W) := (kk01 W h)
theorem s18 (W : World) (h : W.ShapedOpen Tryz.prog) : ShotOk Tryz.prog (.of W) 16 sh18 := run_shot (kk_18 W h) Tryz.mixed_orders (shotRunF_eq r18)
theorem kk_19 (W : World) (h : W.ShapedOpen Tryz.prog) : KnownOk Tryz.prog K_19 (.of W) := (kk01 W h)
theorem s19 (W : World) (h : W.ShapedOpen Tryz.prog) : ShotOk Tryz.prog (.of W) 45 sh19 := run_shot (kk_19 W h) Tryz.mixed_orders (shotRunF_eq r19)
theorem kk_20 (W : World) (h : W.ShapedOpen Tryz.prog) : KnownOk Tryz.prog K_20 (.of W) := ((kk01 W h).withK (shotK_ok (s19 W h) f19))
theorem s20 (W : World) (h : W.ShapedOpen Tryz.prog) : ShotOk Tryz.prog (.of W) 21 sh20 := run_shot (kk_20 W h) Tryz.mixed_orders (shotRunF_eq r20)
theorem kk_21 (W : World) (h : W.ShapedOpen Tryz.prog) : KnownOk Tryz.prog K_21 (.of W) := ((kk01 W h).withK (shotK_ok (s20 W h) f20))
theorem s21 (W : World) (h : W.ShapedOpen Tryz.prog) : ShotOk Tryz.prog (.of W) 11 sh21 := run_shot (kk_21 W h) Tryz.mixed_orders (shotRunF_eq r21)
theorem kk_22 (W : World) (h : W.ShapedOpen Tryz.prog) : KnownOk Tryz.prog K_22 (.of W) := (kk01 W h)
theorem s22 (W : World) (h : W.ShapedOpen Tryz.prog) : ShotOk Tryz.prog (.of W) 50 sh22 := run_shot (kk_22 W h) Tryz.mixed_orders (shotRunF_eq r22)
theorem kk_23 (W : World) (h : W.ShapedOpen Tryz.prog) : KnownOk Tryz.prog K_23 (.of W) := (((((kk01 W h).withK (shotK_ok (s17 W h) f17)).withK (shotK_ok (s18 W h) f18)).withK (shotK_ok (s21 W h) f21)).withK (shotK_ok (s22 W h) f22))
theorem s23 (W : World) (h : W.ShapedOpen Tryz.prog) : ShotOk Tryz.prog (.of W) 4 sh23 := run_shot (kk_23 W h) Tryz.mixed_orders (shotRunF_eq r23)
theorem kk_24 (W : World) (h : W.ShapedOpen Tryz.prog) : KnownOk Tryz.prog K_24 (.of W) := (kk01 W h)
theorem s24 (W : World) (h : W.ShapedOpen Tryz.prog) : ShotOk Tryz.prog (.of W) 13 sh24 := run_shot (kk_24 W h) Tryz.mixed_orders (shotRunF_eq r24)
theorem kk_25 (W : World) (h : W.ShapedOpen Tryz.prog) : KnownOk Tryz.prog K_25 (.of W) := (kk01 W h)
theorem s25 (W : World) (h : W.ShapedOpen Tryz.prog) : ShotOk Tryz.prog (.of W) 16 sh25 := run_shot (kk_25 W h) Tryz.mixed_orders (shotRunF_eq r25)
theorem kk_26 (W : World) (h : W.ShapedOpen Tryz.prog) : KnownOk Tryz.prog K_26 (.of W) := (kk01 W h)
theorem s26 (W : World) (h : W.ShapedOpen Tryz.prog) : ShotOk Tryz.prog (.of W) 21 sh26 := run_shot (kk_26 W h) Tryz.mixed_orders (shotRunF_eq r26)
theorem kk_27 (W : World) (h : W.ShapedOpen Tryz.prog) : KnownOk Tryz.prog K_27 (.of W) := (kk01 W h)
theorem s27 (W : World) (h : W.ShapedOpen Tryz.prog) : ShotOk Tryz.prog (.of W) 50 sh27 := run_shot (kk_27 W h) Tryz.mixed_orders (shotRunF_eq r27)
theorem kk_28 (W : World) (h : W.ShapedOpen Tryz.prog) : KnownOk Tryz.prog K_28 (.of W) := (((((kk01 W h).withK (shotK_ok (s24 W h) f24)).withK (shotK_ok (s25 W h) f25)).withK (shotK_ok (s26 W h) f26)).withK (shotK_ok (s27 W h) f27))
theorem s28 (W : World) (h : W.ShapedOpen Tryz.prog) : ShotOk Tryz.prog (.of W) 4 sh28 := run_shot (kk_28 W h) Tryz.mixed_orders (shotRunF_eq r28)
theorem kk_29 (W : World) (h : W.ShapedOpen Tryz.prog) : KnownOk Tryz.prog K_29 (.of W) := (kk01 W h)
theorem s29 (W : World) (h : W.ShapedOpen Tryz.prog) : ShotOk Tryz.prog (.of W) 13 sh29 := run_shot (kk_29 W h) Tryz.mixed_orders (shotRunF_eq r29)
theorem kk_30 (W : World) (h : W.ShapedOpen Tryz.prog) : KnownOk Tryz.prog K_30 (.of W) := (kk01 W h)
theorem s30 (W : World) (h : W.ShapedOpen Tryz.prog) : ShotOk Tryz.prog (.of W) 13 sh30 := run_shot (kk_30 W h) Tryz.mixed_orders (shotRunF_eq r30)
theorem kk_31 (W : World) (h : W.ShapedOpen Tryz.prog) : KnownOk Tryz.prog K_31 (.of W) := (kk01 W h)
theorem s31 (W : World) (h : W.ShapedOpen Tryz.prog) : ShotOk Tryz.prog (.of W) 13 sh31 := run_shot (kk_31 W h) Tryz.mixed_orders (shotRunF_eq r31)
theorem kk_32 (W : World) (h : W.ShapedOpen Tryz.prog) : KnownOk Tryz.prog K_32 (.of W) := ((kk01 W h).withK (orK_ok (shotK_ok (s29 W h) f29) (orK_ok (shotK_ok (s30 W h) f30) (shotK_ok (s31 W h) f31))))
theorem s32 (W : World) (h : W.ShapedOpen Tryz.prog) : ShotOk Tryz.prog (.of W) 6 sh32 := run_shot (kk_32 W h) Tryz.mixed_orders (shotRunF_eq r32)
theorem kk_33 (W : World) (h : W.ShapedOpen Tryz.prog) : KnownOk Tryz.prog K_33 (.of W) := (kk01 W h)
theorem s33 (W : World) (h : W.ShapedOpen Tryz.prog) : ShotOk Tryz.prog (.of W) 7 sh33 := run_shot (kk_33 W h) Tryz.mixed_orders (shotRunF_eq r33)
theorem kk_34 (W : World) (h : W.ShapedOpen Tryz.prog) : KnownOk Tryz.prog K_34 (.of W) := (kk01 W h)
theorem s34 (W : World) (h : W.ShapedOpen Tryz.prog) : ShotOk Tryz.prog (.of W) 7 sh34 := run_shot (kk_34 W h) Tryz.mixed_orders (shotRunF_eq r34)
theorem kk_35 (W : World) (h : W.ShapedOpen Tryz.prog) : KnownOk Tryz.prog K_35 (.of W) := (kk01 W h)
theorem s35 (W : World) (h : W.ShapedOpen Tryz.prog) : ShotOk Tryz.prog (.of W) 7 sh35 := run_shot (kk_35 W h) Tryz.mixed_orders (shotRunF_eq r35)
theorem kk_36 (W : World) (h : W.ShapedOpen Tryz.prog) : KnownOk Tryz.prog K_36 (.of W) := (kk01 W h)
theorem s36 (W : World) (h : W.ShapedOpen Tryz.prog) : ShotOk Tryz.prog (.of W) 13 sh36 := run_shot (kk_36 W h) Tryz.mixed_orders (shotRunF_eq r36)
theorem kk_37 (W : World) (h : W.ShapedOpen Tryz.prog) : KnownOk Tryz.prog K_37 (.of W) := (kk01 W h)
theorem s37 (W : World) (h : W.ShapedOpen Tryz.prog) : ShotOk Tryz.prog (.of W) 13 sh37 := run_shot (kk_37 W h) Tryz.mixed_orders (shotRunF_eq r37)
theorem kk_38 (W : World) (h : W.ShapedOpen Tryz.prog) : KnownOk Tryz.prog K_38 (.of W) := ((kk01 W h).withK (orK_ok (shotK_ok (s36 W h) f36) (shotK_ok (s37 W h) f37)))
theorem s38 (W : World) (h : W.ShapedOpen Tryz.prog) : ShotOk Tryz.prog (.of W) 6 sh38 := run_shot (kk_38 W h) Tryz.mixed_orders (shotRunF_eq r38)
theorem kk_39 (W : World) (h : W.ShapedOpen Tryz.prog) : KnownOk Tryz.prog K_39 (.of W) := (kk01 W h)
theorem s39 (W : World) (h : W.ShapedOpen Tryz.prog) : ShotOk Tryz.prog (.of W) 21 sh39 := run_shot (kk_39 W h) Tryz.mixed_orders (shotRunF_eq r39)
theorem kk_40 (W : World) (h : W.ShapedOpen Tryz.prog) : KnownOk Tryz.prog K_40 (.of W) := ((kk01 W h).withK (shotK_ok (s39 W h) f39))
theorem s40 (W : World) (h : W.ShapedOpen Tryz.prog) : ShotOk Tryz.prog (.of W) 7 sh40 := run_shot (kk_40 W h) Tryz.mixed_orders (shotRunF_eq r40)
theorem kk_41 (W : World) (h : W.ShapedOpen Tryz.prog) : KnownOk Tryz.prog K_41 (.of W) := (kk01 W h)
theorem s41 (W : World) (h : W.ShapedOpen Tryz.prog) : ShotOk Tryz.prog (.of W) 21 sh41 := run_shot (kk_41 W h) Tryz.mixed_orders (shotRunF_eq r41)
theorem kk_42 (W : World) (h : W.ShapedOpen Tryz.prog) : KnownOk Tryz.prog K_42 (.of W) := ((kk01 W h).withK (shotK_ok (s41 W h) f41))
theorem s42 (W : World) (h : W.ShapedOpen Tryz.prog) : ShotOk Tryz.prog (.of W) 7 sh42 := run_shot (kk_42 W h) Tryz.mixed_orders (shotRunF_eq r42)
theorem kk_43 (W : World) (h : W.ShapedOpen Tryz.prog) : KnownOk Tryz.prog K_43 (.of W) := (kk01 W h)
theorem s43 (W : World) (h : W.ShapedOpen Tryz.prog) : ShotOk Tryz.prog (.of W) 13 sh43 := run_shot (kk_43 W h) Tryz.mixed_orders (shotRunF_eq r43)
theorem kk_44 (W : World) (h : W.ShapedOpen Tryz.prog) : KnownOk Tryz.prog K_44 (.of W) := ((kk01 W h).withK (shotK_ok (s43 W h) f43))
theorem s44 (W : World) (h : W.ShapedOpen Tryz.prog) : ShotOk Tryz.prog (.of W) 4 sh44 := run_shot (kk_44 W h) Tryz.mixed_orders (shotRunF_eq r44)
theorem kk_45 (W : World) (h : W.ShapedOpen Tryz.prog) : KnownOk Tryz.prog K_45 (.of W) := (kk01 W h)
theorem s45 (W : World) (h : W.ShapedOpen Tryz.prog) : ShotOk Tryz.prog (.of W) 13 sh45 := run_shot (kk_45 W h) Tryz.mixed_orders (shotRunF_eq r45)
theorem kk_46 (W : World) (h : W.ShapedOpen Tryz.prog) : KnownOk Tryz.prog K_46 (.of W) := (kk01 W h)
theorem s46 (W : World) (h : W.ShapedOpen Tryz.prog) : ShotOk Tryz.prog (.of W) 21 sh46 := run_shot (kk_46 W h) Tryz.mixed_orders (shotRunF_eq r46)
theorem kk_47 (W : World) (h : W.ShapedOpen Tryz.prog) : KnownOk Tryz.prog K_47 (.of W) := (((kk01 W h).withK (shotK_ok (s45 W h) f45)).withK (shotK_ok (s46 W h) f46))
theorem s47 (W : World) (h : W.ShapedOpen Tryz.prog) : ShotOk Tryz.prog (.of W) 4 sh47 := run_shot (kk_47 W h) Tryz.mixed_orders (shotRunF_eq r47)
theorem kk_48 (W : World) (h : W.ShapedOpen Tryz.prog) : KnownOk Tryz.prog K_48 (.of W) := (kk01 W h)
theorem s48 (W : World) (h : W.ShapedOpen Tryz.prog) : ShotOk Tryz.prog (.of W) 13 sh48 := run_shot (kk_48 W h) Tryz.mixed_orders (shotRunF_eq r48)
theorem kk_49 (W : World) (h : W.ShapedOpen Tryz.prog) : KnownOk Tryz.prog K_49 (.of W) := ((kk01 W h).withK (shotK_ok (s48 W h) f48))
theorem s49 (W : World) (h : W.ShapedOpen Tryz.prog) : ShotOk Tryz.prog (.of W) 4 sh49 := run_shot (kk_49 W h) Tryz.mixed_orders (shotRunF_eq r49)
theorem kk_50 (W : World) (h : W.ShapedOpen Tryz.prog) : KnownOk Tryz.prog K_50 (.of W) := ((((kk01 W h).withK (orK_ok (shotK_ok (s5 W h) f5) (orK_ok (shotK_ok (s9 W h) f9) (orK_ok (shotK_ok (s16 W h) f16) (orK_ok (shotK_ok (s23 W h) f23) (orK_ok (shotK_ok (s28 W h) f28) (orK_ok (shotK_ok (s44 W h) f44) (orK_ok (shotK_ok (s47 W h) f47) (shotK_ok (s49 W h) f49))))))))).withK (orK_ok (shotK_ok (s32 W h) f32) (shotK_ok (s38 W h) f38))).withK (orK_ok (shotK_ok (s33 W h) f33) (orK_ok (shotK_ok (s34 W h) f34) (orK_ok (shotK_ok (s35 W h) f35) (orK_ok (shotK_ok (s40 W h) f40) (shotK_ok (s42 W h) f42))))))
theorem Tryz.bounds_calls (W : World) (h : W.ShapedOpen Tryz.prog) : Calls Tryz.prog 3 #[] W fun e w' => e = .returned (.bool true) ∧ (∀ b, b < W.heap.size → w'.heap[b]? = W.heap[b]?) ∧ w'.output = W.output ∧ w'.os = W.os :=
  (answersTrue_sound rTop Tryz.mixed_orders W (kk_50 W h)).mono fun _ _ ⟨a, _, c, d, e, _⟩ => ⟨a, c, d, e⟩
end Go.Proofs
