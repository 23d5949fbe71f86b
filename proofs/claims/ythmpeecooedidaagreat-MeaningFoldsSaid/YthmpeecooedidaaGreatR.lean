/- MeaningFolds: what the kernel has run, together. -/
import Derived.Test.YthmpeecooedidaaGreatWa
import Derived.Test.YthmpeecooedidaaGreatTTab
import Derived.Test.YthmpeecooedidaaGreatFChain
namespace Go.Proofs
open Go Go.AM
noncomputable section
set_option maxRecDepth 1000000
theorem a_tsC:tsOkB tsC=true:=by decide+kernel
theorem b_tsC:tsMemB tsC=true:=by decide+kernel
theorem a_S746:tsOkB S746=true:=by decide+kernel
theorem b_S746:tsMemB S746=true:=by decide+kernel
theorem a_S1266:tsOkB S1266=true:=by decide+kernel
theorem b_S1266:tsMemB S1266=true:=by decide+kernel
theorem a_S1268:tsOkB S1268=true:=by decide+kernel
theorem b_S1268:tsMemB S1268=true:=by decide+kernel
theorem a_S1270:tsOkB S1270=true:=by decide+kernel
theorem b_S1270:tsMemB S1270=true:=by decide+kernel
theorem a_S1271:tsOkB S1271=true:=by decide+kernel
theorem b_S1271:tsMemB S1271=true:=by decide+kernel
theorem a_M11:msOkB M11=true:=by decide+kernel
theorem c_M11:MSok M11:=msOk_of (fun _ _=>rfl) a_M11
theorem a_M12:msOkB M12=true:=by decide+kernel
theorem c_M12:MSok M12:=msOk_of (fun _ _=>rfl) a_M12
theorem a_M21:msOkB M21=true:=by decide+kernel
theorem c_M21:MSok M21:=msOk_of (fun _ _=>rfl) a_M21
theorem a_M22:msOkB M22=true:=by decide+kernel
theorem c_M22:MSok M22:=msOk_of (fun _ _=>rfl) a_M22
theorem a_M31:msOkB M31=true:=by decide+kernel
theorem c_M31:MSok M31:=msOk_of (fun _ _=>rfl) a_M31
theorem a_M32:msOkB M32=true:=by decide+kernel
theorem c_M32:MSok M32:=msOk_of (fun _ _=>rfl) a_M32
theorem a_M51:msOkB M51=true:=by decide+kernel
theorem c_M51:MSok M51:=msOk_of (fun _ _=>rfl) a_M51
theorem a_M52:msOkB M52=true:=by decide+kernel
theorem c_M52:MSok M52:=msOk_of (fun _ _=>rfl) a_M52
theorem d_M11:topOkB (wr M11 2 14 0)=true:=by decide+kernel
theorem d_M12:topOkB (wr M12 1 18 0)=true:=by decide+kernel
theorem d_M21:topOkB (wr M21 2 14 0)=true:=by decide+kernel
theorem d_M22:topOkB (wr M22 1 18 0)=true:=by decide+kernel
theorem d_M31:topOkB (wr M31 2 14 0)=true:=by decide+kernel
theorem d_M32:topOkB (wr M32 1 18 0)=true:=by decide+kernel
theorem d_M51:topOkB (wr M51 2 14 0)=true:=by decide+kernel
theorem d_M52:topOkB (wr M52 1 18 0)=true:=by decide+kernel
theorem topNo:lawRunF Tryz.prog (topK Tryz.prog (pureT (sy 10) [false] false) 0 [] [])=true:=by decide+kernel
theorem topUnk:([0,1,2,3,4,10,12].all fun o=>lawRunF Tryz.prog (topK Tryz.prog (pureT (sy 10) [true] false) o [tsC] []))=true:=by decide+kernel
theorem yAll (k:Nat) (hk:k<64):tabY Tryz.prog tsC k=true:=by
  rw[←tabYF_eq]
  have h:=rng yRest k hk
  simp only[Bool.or_eq_true,Nat.beq_eq]at h
  rcases h with(((h|h)|h)|h)|h
  ·subst h;exact y21
  ·subst h;exact y35
  ·subst h;exact y27
  ·subst h;exact y11
  ·exact h
theorem ran:Ran where
  t1:=tabOk_of tDes
  t2:=tabOk_of tFac
  t3:=tabOk_of tLev
  t4:=tabOk_of tMay
  typ:=⟨tsOk_of a_tsC,yAll,by rw[←rowPF_eq];exact yProc,by rw[←rowMF_eq];exact yMod⟩
  memC:=tsMem_of b_tsC
  kty:=by
    intro S h
    rcases h with rfl|rfl|rfl|rfl|rfl
    ·exact⟨tabK_of (tsOk_of a_S746) k746 b746 p746,tsMem_of b_S746⟩
    ·exact⟨tabK_of (tsOk_of a_S1266) k1266 b1266 p1266,tsMem_of b_S1266⟩
    ·exact⟨tabK_of (tsOk_of a_S1268) k1268 b1268 p1268,tsMem_of b_S1268⟩
    ·exact⟨tabK_of (tsOk_of a_S1270) k1270 b1270 p1270,tsMem_of b_S1270⟩
    ·exact⟨tabK_of (tsOk_of a_S1271) k1271 b1271 p1271,tsMem_of b_S1271⟩
  mean:=by
    intro M h
    rcases h with rfl|rfl|rfl|rfl|rfl|rfl|rfl|rfl
    ·exact⟨c_M11,rowsM_of m11,objs_of oo11⟩
    ·exact⟨c_M12,rowsM_of m12,objs_of oo12⟩
    ·exact⟨c_M21,rowsM_of m21,objs_of oo21⟩
    ·exact⟨c_M22,rowsM_of m22,objs_of oo22⟩
    ·exact⟨c_M31,rowsM_of m31,objs_of oo31⟩
    ·exact⟨c_M32,rowsM_of m32,objs_of oo32⟩
    ·exact⟨c_M51,rowsM_of m51,objs_of oo51⟩
    ·exact⟨c_M52,rowsM_of m52,objs_of oo52⟩
  worlds:=⟨topOk_of c_M11 d_M11,topOk_of c_M12 d_M12,topOk_of c_M21 d_M21,topOk_of c_M22 d_M22,topOk_of c_M31 d_M31,topOk_of c_M32 d_M32,topOk_of c_M51 d_M51,topOk_of c_M52 d_M52⟩
  runs:=⟨topRun_of topNo,fun o ho=>topRun_of (List.all_eq_true.1 topUnk o ho),way_r5,way_r6,way_r7,way_r88,way_r8b,way_rb8,way_rbb,way_r9,way_r11⟩
  known:=known_ok
end
end Go.Proofs
