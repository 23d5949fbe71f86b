/- JudgeNil: closed facts of its row. -/
import Derived.Test.YteoodndfkdfnaaaGreatDoorRows
import Derived.ProofKit
import Derived.JoinedOf
namespace Go.Proofs.YteoodndfkdfnaaaGreatDoor
open Go
theorem k_wf : Rows.judgeNilRow.wf (OpenSpec.ofChange Rows.judgeNilSpec) = true := by kernel_rfl
theorem k_mapsRowed : mapsRowed Tryz.prog = true := by kernel_rfl
theorem k_params : Tryz.f3.params.all (Tryz.prog.readableRec ·) = true := by kernel_rfl
theorem k_namedTie : namedTie Tryz.prog Rows.judgeNilRow.named Rows.judgeNilSpec.vars = true := by kernel_rfl
theorem k_st1 : (Rows.judgeNilRow.stops == []) = true := by kernel_rfl
theorem k_st2 : (Tryz.prog.stops == []) = true := by kernel_rfl
theorem k_kn1 : (Rows.judgeNilRow.knobs == []) = true := by kernel_rfl
theorem k_kn2 : (Tryz.prog.stopKnobs == []) = true := by kernel_rfl
theorem k_maps : (Rows.judgeNilRow.maps == (Tryz.f3.params.toList ++ Rows.judgeNilSpec.plain.varTypes Tryz.prog).any (Tryz.prog.mapsRec ·)) = true := by kernel_rfl
theorem k_ifaces : (Rows.judgeNilRow.ifaces == (Tryz.f3.params.toList ++ Rows.judgeNilSpec.plain.varTypes Tryz.prog).any (Tryz.prog.ifacesRec ·)) = true := by kernel_rfl
theorem k_mapsOut : (Rows.judgeNilRow.mapsOut == Tryz.prog.mapsAmong Tryz.f3.resultTypes.toList) = true := by kernel_rfl
theorem k_loops : (Rows.judgeNilRow.loops == (Tryz.f3.params.toList ++ Rows.judgeNilSpec.plain.varTypes Tryz.prog).any (Tryz.prog.loopsFrom ·)) = true := by kernel_rfl
theorem k_wideKeys : (Rows.judgeNilRow.wideKeys == (Tryz.f3.params.toList ++ Rows.judgeNilSpec.plain.varTypes Tryz.prog ++ Tryz.f3.resultTypes.toList).any (Tryz.prog.wideKeysFrom ·)) = true := by kernel_rfl
theorem k_varsR : Rows.judgeNilSpec.vars.all (Tryz.prog.varReadable ·) = true := by kernel_rfl
end Go.Proofs.YteoodndfkdfnaaaGreatDoor
