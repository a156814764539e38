/- The law 'TxnNone', reckoned: it returns true, whatever its arguments' cells; some of its calls are known. -/
import Derived.Test.YtkopocjaofejgaaGreatDoorEvTxnNoneT0
import Derived.Test.YtkopocjaofejgaaGreatDoorEvTxnNoneT1
import Derived.Test.YtkopocjaofejgaaGreatDoorEvTxnNoneT2
import Derived.ProofKit
namespace Go.Proofs.YtkopocjaofejgaaGreatDoor.TxnNone
open Go.Ev

theorem txnNone_run : (runO Tryz.prog [t1, t4, t5] 100000 (.call 4 (anyArgs ([52].map (shapeT Tryz.prog)) 0)) Ev.start).check saysTrue = true := by kernel_rfl
theorem txnNone_known : ∀ e ∈ [t1, t4, t5], e.ok Tryz.prog := (all3 t1_ok t4_ok t5_ok)

end Go.Proofs.YtkopocjaofejgaaGreatDoor.TxnNone
