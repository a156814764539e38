/- The law 'MigratorNone', reckoned: it returns true, whatever its arguments' cells; some of its calls are known. -/
import Derived.Test.YtkopocjaofejgaaGreatDoorEvMigratorNoneT0
import Derived.Test.YtkopocjaofejgaaGreatDoorEvMigratorNoneT4
import Derived.Test.YtkopocjaofejgaaGreatDoorEvMigratorNoneT5
import Derived.Test.YtkopocjaofejgaaGreatDoorEvMigratorNoneT6
import Derived.Test.YtkopocjaofejgaaGreatDoorEvMigratorNoneT7
import Derived.ProofKit
namespace Go.Proofs.YtkopocjaofejgaaGreatDoor.MigratorNone
open Go.Ev

theorem migratorNone_run : (runO Tryz.prog [t4, t5, t8, t9, t12, t14, t16] 100000 (.call 3 (anyArgs ([23, 3].map (shapeT Tryz.prog)) 0)) Ev.start).check saysTrue = true := by kernel_rfl
theorem migratorNone_known : ∀ e ∈ [t4, t5, t8, t9, t12, t14, t16], e.ok Tryz.prog := (all7 t4_ok t5_ok t8_ok t9_ok t12_ok t14_ok t16_ok)

end Go.Proofs.YtkopocjaofejgaaGreatDoor.MigratorNone
