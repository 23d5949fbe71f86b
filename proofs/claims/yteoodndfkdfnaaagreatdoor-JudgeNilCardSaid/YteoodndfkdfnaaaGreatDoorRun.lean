/- JudgeNil: a run of the abstract machine answers true. -/
import Derived.Test.YteoodndfkdfnaaaGreatDoorProg
import Derived.Test.YteoodndfkdfnaaaGreatDoorAmKnown
namespace Go.Proofs
open Go Go.AM
set_option maxRecDepth 1000000
theorem Tryz.judgeNil_run : answersTrue Tryz.prog (known3 431 351 432) 3 13000 = true := by decide +kernel
end Go.Proofs
