/- MeaningBounds: closed facts of its row. -/
import Derived.Test.YtbiadddjhdgddaaGreatRows
import Derived.ProofKit
import Derived.JoinedOf
import Derived.Handed
namespace Go.Proofs.YtbiadddjhdgddaaGreat
open Go
theorem k_wf : Rows.meaningBoundsRow.wf (OpenSpec.ofChange Rows.meaningBoundsSpec) = true := by kernel_rfl
theorem k_params : Tryz.f3.params.all (Tryz.prog.readableRec ·) = true := by kernel_rfl
theorem k_namedTie : namedTie Tryz.prog Rows.meaningBoundsRow.named Rows.meaningBoundsSpec.vars = true := by kernel_rfl
theorem k_st1 : (Rows.meaningBoundsRow.stops == []) = true := by kernel_rfl
theorem k_st2 : (Tryz.prog.stops == []) = true := by kernel_rfl
theorem k_kn1 : (Rows.meaningBoundsRow.knobs == []) = true := by kernel_rfl
theorem k_kn2 : (Tryz.prog.stopKnobs == []) = true := by kernel_rfl
theorem k_maps : (Rows.meaningBoundsRow.maps == (Tryz.f3.params.toList ++ Rows.meaningBoundsSpec.plain.varTypes Tryz.prog).any (Tryz.prog.mapsRec ·)) = true := by kernel_rfl
theorem k_ifaces : (Rows.meaningBoundsRow.ifaces == (Tryz.f3.params.toList ++ Rows.meaningBoundsSpec.plain.varTypes Tryz.prog).any (Tryz.prog.ifacesRec ·)) = true := by kernel_rfl
theorem k_mapsOut : (Rows.meaningBoundsRow.mapsOut == Tryz.prog.mapsAmong Tryz.f3.resultTypes.toList) = true := by kernel_rfl
theorem k_loops : (Rows.meaningBoundsRow.loops == (Tryz.f3.params.toList ++ Rows.meaningBoundsSpec.plain.varTypes Tryz.prog).any (Tryz.prog.loopsFrom ·)) = true := by kernel_rfl
theorem k_wideKeys : (Rows.meaningBoundsRow.wideKeys == (Tryz.f3.params.toList ++ Rows.meaningBoundsSpec.plain.varTypes Tryz.prog ++ Tryz.f3.resultTypes.toList).any (Tryz.prog.wideKeysFrom ·)) = true := by kernel_rfl
theorem k_varsR : Rows.meaningBoundsSpec.vars.all (Tryz.prog.varReadable ·) = true := by kernel_rfl
theorem k_res : Tryz.f3.resultTypes.all (fun t => Tryz.prog.readableRec t && decide (t < Tryz.prog.types.size)) = true := by kernel_rfl
theorem k_ifacesOut : (Rows.meaningBoundsRow.ifacesOut == Tryz.f3.resultTypes.toList.any (Tryz.prog.ifacesRec ·)) = true := by kernel_rfl
theorem k_loopsOut : (Rows.meaningBoundsRow.loopsOut == Tryz.f3.resultTypes.toList.any (Tryz.prog.loopsFrom ·)) = true := by kernel_rfl
theorem k_plainKeys : (Rows.meaningBoundsRow.plainKeys == Tryz.prog.plainKeys) = true := by kernel_rfl
theorem k_short : Rows.meaningBoundsRow.shortTexts.isNone = true := by kernel_rfl
theorem k_stopsHeard : Tryz.prog.stopsHeard = true := by kernel_rfl
theorem k_mayEnter : Tryz.prog.mayEnter = true := by kernel_rfl
theorem k_lifted : (Rows.meaningBoundsRow.lifted == Tryz.prog.liftsFinal) = true := by kernel_rfl
theorem k_make : (Tryz.prog.make == some Rows.meaningBoundsRow.make) = true := by kernel_rfl
theorem k_pinnedC : (Rows.meaningBoundsRow.pinned == Rows.meaningBoundsRow.pinnedBy) = true := by kernel_rfl
theorem k_veiled : (Rows.meaningBoundsRow.veiled == (Tryz.f3.params.toList ++ Rows.meaningBoundsSpec.plain.varTypes Tryz.prog ++ Tryz.f3.resultTypes.toList).any (Tryz.prog.veiledRec ·)) = true := by kernel_rfl
theorem k_veiledFits : Rows.meaningBoundsRow.veiledFits Tryz.prog Tryz.f3.params.toList (Tryz.f3.params.toList ++ Rows.meaningBoundsSpec.plain.varTypes Tryz.prog ++ Tryz.f3.resultTypes.toList) = true := by kernel_rfl
end Go.Proofs.YtbiadddjhdgddaaGreat
