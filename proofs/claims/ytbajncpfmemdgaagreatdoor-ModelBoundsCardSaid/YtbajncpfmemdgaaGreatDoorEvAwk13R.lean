/- transomlaw13's awake, reckoned: it returns true; some of its calls are known. -/
import Derived.Test.YtbajncpfmemdgaaGreatDoorEvAwk13T
namespace Go.Proofs.YtbajncpfmemdgaaGreatDoor.Awk13
open Go.Ev

theorem awk13_run : (runO Tryz.prog [t1, t2, t3, t4, t5, t6] 100000 (.call 46 []) Ev.start).check saysTrue = true := by kernel_rfl
theorem awk13_known : ∀ e ∈ [t1, t2, t3, t4, t5, t6], e.ok Tryz.prog := (all6 t1_ok t2_ok t3_ok t4_ok t5_ok t6_ok)

end Go.Proofs.YtbajncpfmemdgaaGreatDoor.Awk13
