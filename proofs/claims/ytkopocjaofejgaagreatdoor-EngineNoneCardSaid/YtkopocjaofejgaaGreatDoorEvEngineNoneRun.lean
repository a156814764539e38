/- The law 'EngineNone', reckoned: it returns true, whatever its arguments' cells; some of its calls are known. -/
import Derived.Test.YtkopocjaofejgaaGreatDoorEvEngineNoneT0
import Derived.Test.YtkopocjaofejgaaGreatDoorEvEngineNoneT1
import Derived.ProofKit
namespace Go.Proofs.YtkopocjaofejgaaGreatDoor.EngineNone
open Go.Ev

theorem engineNone_run : (runO Tryz.prog [t1, t2] 100000 (.call 6 (anyArgs ([88].map (shapeT Tryz.prog)) 0)) Ev.start).check saysTrue = true := by kernel_rfl
theorem engineNone_known : ∀ e ∈ [t1, t2], e.ok Tryz.prog := (all2 t1_ok t2_ok)

end Go.Proofs.YtkopocjaofejgaaGreatDoor.EngineNone
