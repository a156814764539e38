/- The law 'transomlaw24.CommitNone', reckoned: it returns true, whatever its arguments' cells. -/
import Derived.Test.YtkaknfocnecckaaGreatRows
import Derived.Test.YtkaknfocnecckaaGreatEvArgs
import Derived.ProofKit
namespace Go.Proofs.YtkaknfocnecckaaGreat

theorem commitNone_run : Ev.CallW Tryz.prog 4 (Ev.anyArgs ([3, 53, 3].map (Ev.shapeT Tryz.prog)) 0) (fun v _ => v = .bool true) Ev.start := Ev.CallW.of_true 100000 (by kernel_rfl)

end Go.Proofs.YtkaknfocnecckaaGreat
