/- The law 'SessionNone', reckoned: it returns true, whatever its arguments' cells; some of its calls are known. -/
import Derived.Test.YtkopocjaofejgaaGreatDoorEvSessionNoneT0
import Derived.Test.YtkopocjaofejgaaGreatDoorEvSessionNoneT1
import Derived.Test.YtkopocjaofejgaaGreatDoorEvSessionNoneT2
import Derived.ProofKit
namespace Go.Proofs.YtkopocjaofejgaaGreatDoor.SessionNone
open Go.Ev

theorem sessionNone_run : (runO Tryz.prog [t1, t4] 100000 (.call 5 (anyArgs ([72, 23].map (shapeT Tryz.prog)) 0)) Ev.start).check saysTrue = true := by kernel_rfl
theorem sessionNone_known : ∀ e ∈ [t1, t4], e.ok Tryz.prog := (all2 t1_ok t4_ok)

end Go.Proofs.YtkopocjaofejgaaGreatDoor.SessionNone
