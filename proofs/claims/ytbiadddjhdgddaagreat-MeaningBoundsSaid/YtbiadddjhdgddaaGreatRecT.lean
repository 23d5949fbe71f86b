/- MeaningBounds: the two recursions: a level with symbols, the last one with numbers. -/
import Derived.Test.YtbiadddjhdgddaaGreatShotsDef
namespace Go.Proofs
open Go Go.AM
noncomputable section
set_option maxRecDepth 1000000
theorem rP : shotRunF Tryz.prog (withK (withK K00 126 kAdd) 113 (recK recP (more 1366 1367 3))) 5000 113 (symS recP 1368 1412) = true := by decide +kernel
theorem bP : shotRunF Tryz.prog K00 5000 113 (litB recP 1366 1367 3 1999 1408) = true := by decide +kernel
theorem oP : recOk recP 1366 1367 3 1368 = true := by decide +kernel
theorem lP : litOk recP 1366 1367 3 1999 = true := by decide +kernel
theorem fP : shotFrame (lit recP 1366 1367 3 1) = true := by decide +kernel
theorem rQ : shotRunF Tryz.prog (withK (withK K00 126 kAdd) 113 (recK recQ (more 2338 2337 2))) 5000 113 (symS recQ 2339 2359) = true := by decide +kernel
theorem bQ : shotRunF Tryz.prog K00 5000 113 (litB recQ 2338 2337 2 1999 2362) = true := by decide +kernel
theorem oQ : recOk recQ 2338 2337 2 2339 = true := by decide +kernel
theorem lQ : litOk recQ 2338 2337 2 1999 = true := by decide +kernel
theorem fQ : shotFrame (lit recQ 2338 2337 2 1) = true := by decide +kernel
end
end Go.Proofs
