/- MeaningFolds: the closed facts of its row, together. -/
import Derived.Test.YthmpeecooedidaaGreatFa
import Derived.Test.YthmpeecooedidaaGreatFb
import Derived.Test.YthmpeecooedidaaGreatFc
import Derived.Test.YthmpeecooedidaaGreatFd
namespace Go.Proofs.YthmpeecooedidaaGreat
open Go
theorem and_mk {a b : Bool} (h : a = true) (k : b = true) : (a && b) = true := by rw [h, k]; rfl
theorem joined : joinedFacts Tryz.prog 3 Tryz.f3 Rows.meaningFoldsSpec Rows.meaningFoldsRow = true := by
  unfold joinedFacts
  refine and_mk (and_mk (and_mk (and_mk (and_mk (and_mk (and_mk (and_mk (and_mk (and_mk (and_mk (and_mk (and_mk (and_mk (and_mk (and_mk (and_mk (and_mk (and_mk (and_mk (and_mk (and_mk (and_mk (and_mk (and_mk (and_mk (and_mk (and_mk (and_mk (and_mk (and_mk ?_ ?_) ?_) ?_) ?_) ?_) ?_) ?_) ?_) ?_) ?_) ?_) ?_) ?_) ?_) ?_) ?_) ?_) ?_) ?_) ?_) ?_) ?_) ?_) ?_) ?_) ?_) ?_) ?_) ?_) ?_) ?_
  · exact k_wf
  · exact k_laidOut
  · exact k_mapsRowed
  · exact k_params
  · exact k_namedTie
  · exact k_st1
  · exact k_st2
  · exact k_kn1
  · exact k_kn2
  · exact k_inPlace
  · exact k_unf
  · exact k_rec
  · exact k_named
  · exact k_maps
  · exact k_ifaces
  · exact k_mapsOut
  · exact k_loops
  · exact k_wideKeys
  · exact k_varsR
  · exact k_res
  · exact k_ifacesOut
  · exact k_loopsOut
  · exact k_plainKeys
  · exact k_short
  · exact k_stopsHeard
  · exact k_mayEnter
  · exact k_lifted
  · exact k_make
  · kernel_rfl
  · exact k_pinnedC
  · exact k_veiled
  · exact k_veiledFits
end Go.Proofs.YthmpeecooedidaaGreat
