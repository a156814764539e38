/- The law 'Awake', reckoned: it returns true, whatever its arguments' cells; some of its calls are known. -/
import Derived.Test.YtbajncpfmemdgaaGreatDoorEvAwakeT0
import Derived.Test.YtbajncpfmemdgaaGreatDoorEvAwakeT1
import Derived.ProofKit
namespace Go.Proofs.YtbajncpfmemdgaaGreatDoor.Awake
open Go.Ev

theorem awake_run : (runO Tryz.prog [t2, t4, t5, t7] 100000 (.call 16 []) Ev.start).check saysTrue = true := by kernel_rfl
theorem awake_known : ∀ e ∈ [t2, t4, t5, t7], e.ok Tryz.prog := (all4 t2_ok t4_ok t5_ok t7_ok)

end Go.Proofs.YtbajncpfmemdgaaGreatDoor.Awake
