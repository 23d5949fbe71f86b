/- MeaningFolds: closed facts of its row. -/
import Derived.Test.YthmpeecooedidaaGreatRows
import Derived.ProofKit
import Derived.JoinedOf
import Derived.Handed
namespace Go.Proofs.YthmpeecooedidaaGreat
open Go
theorem k_wf : Rows.meaningFoldsRow.wf (OpenSpec.ofChange Rows.meaningFoldsSpec) = true := by kernel_rfl
theorem k_params : Tryz.f3.params.all (Tryz.prog.readableRec ·) = true := by kernel_rfl
theorem k_namedTie : namedTie Tryz.prog Rows.meaningFoldsRow.named Rows.meaningFoldsSpec.vars = true := by kernel_rfl
theorem k_st1 : (Rows.meaningFoldsRow.stops == []) = true := by kernel_rfl
theorem k_st2 : (Tryz.prog.stops == []) = true := by kernel_rfl
theorem k_kn1 : (Rows.meaningFoldsRow.knobs == []) = true := by kernel_rfl
theorem k_kn2 : (Tryz.prog.stopKnobs == []) = true := by kernel_rfl
theorem k_maps : (Rows.meaningFoldsRow.maps == (Tryz.f3.params.toList ++ Rows.meaningFoldsSpec.plain.varTypes Tryz.prog).any (Tryz.prog.mapsRec ·)) = true := by kernel_rfl
theorem k_ifaces : (Rows.meaningFoldsRow.ifaces == (Tryz.f3.params.toList ++ Rows.meaningFoldsSpec.plain.varTypes Tryz.prog).any (Tryz.prog.ifacesRec ·)) = true := by kernel_rfl
theorem k_mapsOut : (Rows.meaningFoldsRow.mapsOut == Tryz.prog.mapsAmong Tryz.f3.resultTypes.toList) = true := by kernel_rfl
theorem k_loops : (Rows.meaningFoldsRow.loops == (Tryz.f3.params.toList ++ Rows.meaningFoldsSpec.plain.varTypes Tryz.prog).any (Tryz.prog.loopsFrom ·)) = true := by kernel_rfl
theorem k_wideKeys : (Rows.meaningFoldsRow.wideKeys == (Tryz.f3.params.toList ++ Rows.meaningFoldsSpec.plain.varTypes Tryz.prog ++ Tryz.f3.resultTypes.toList).any (Tryz.prog.wideKeysFrom ·)) = true := by kernel_rfl
theorem k_varsR : Rows.meaningFoldsSpec.vars.all (Tryz.prog.varReadable ·) = true := by kernel_rfl
theorem k_res : Tryz.f3.resultTypes.all (fun t => Tryz.prog.readableRec t && decide (t < Tryz.prog.types.size)) = true := by kernel_rfl
theorem k_ifacesOut : (Rows.meaningFoldsRow.ifacesOut == Tryz.f3.resultTypes.toList.any (Tryz.prog.ifacesRec ·)) = true := by kernel_rfl
theorem k_loopsOut : (Rows.meaningFoldsRow.loopsOut == Tryz.f3.resultTypes.toList.any (Tryz.prog.loopsFrom ·)) = true := by kernel_rfl
theorem k_plainKeys : (Rows.meaningFoldsRow.plainKeys == Tryz.prog.plainKeys) = true := by kernel_rfl
theorem k_short : Rows.meaningFoldsRow.shortTexts.isNone = true := by kernel_rfl
theorem k_stopsHeard : Tryz.prog.stopsHeard = true := by kernel_rfl
theorem k_mayEnter : Tryz.prog.mayEnter = true := by kernel_rfl
theorem k_lifted : (Rows.meaningFoldsRow.lifted == Tryz.prog.liftsFinal) = true := by kernel_rfl
theorem k_make : (Tryz.prog.make == some Rows.meaningFoldsRow.make) = true := by kernel_rfl
theorem k_pinnedC : (Rows.meaningFoldsRow.pinned == Rows.meaningFoldsRow.pinnedBy) = true := by kernel_rfl
theorem k_veiled : (Rows.meaningFoldsRow.veiled == (Tryz.f3.params.toList ++ Rows.meaningFoldsSpec.plain.varTypes Tryz.prog ++ Tryz.f3.resultTypes.toList).any (Tryz.prog.veiledRec ·)) = true := by kernel_rfl
theorem k_veiledFits : Rows.meaningFoldsRow.veiledFits Tryz.prog Tryz.f3.params.toList (Tryz.f3.params.toList ++ Rows.meaningFoldsSpec.plain.varTypes Tryz.prog ++ Tryz.f3.resultTypes.toList) = true := by kernel_rfl
end Go.Proofs.YthmpeecooedidaaGreat
