/- The program's tie, its closed facts each apart: what start-up lays for the variable that the rows list. Second part. -/
import Derived.Test.YtbajncpfmemdgaaGreatDoorRows
import Derived.Test.YtbajncpfmemdgaaGreatDoorEvTieA
import Derived.LaidByTextLater
import Derived.SevenTiedAt
namespace Go.Proofs.YtbajncpfmemdgaaGreatDoor
open Go
theorem tieB1 (os : Os) (tape : Tape) : varsDone Tryz.prog 400 (varsId Tryz.prog) os tape = true := by kernel_rfl
theorem tieB2 (os : Os) (tape : Tape) : (DataW.laidRun Tryz.prog (varsWorld Tryz.prog 400 (varsId Tryz.prog) os tape).memory 8 (([("errors.errorType", (Rows.laid_errors_errorType : DataW Unit))].filter fun x => x.2.handleName?.isNone).map (·.1))).map (·.1) = some ([("errors.errorType", (Rows.laid_errors_errorType : DataW Unit))].filter fun x => x.2.handleName?.isNone) := by kernel_rfl
theorem tieB3 (os : Os) (tape : Tape) : (DataW.laidRun Tryz.prog (varsWorld Tryz.prog 400 (varsId Tryz.prog) os tape).memory 8 (([("errors.errorType", (Rows.laid_errors_errorType : DataW Unit))].filter fun x => x.2.handleName?.isNone).map (·.1))).map (fun x => decide x.2.Nodup && laidRowsB Tryz.prog (varsWorld Tryz.prog 400 (varsId Tryz.prog) os tape).memory x.2) = some true := by kernel_rfl
theorem tieB4 (os : Os) (tape : Tape) : ([("errors.errorType", (Rows.laid_errors_errorType : DataW Unit))].filter fun x => x.2.handleName?.isSome).all (handleAtB Tryz.prog (varsWorld Tryz.prog 400 (varsId Tryz.prog) os tape).memory) = true := by kernel_rfl
theorem tieAll : Tryz.prog.laidByTextLater [("errors.errorType", Rows.laid_errors_errorType)] [.handle] true :=
  Program.laidByTextLater_by_run_h 400 8 tieA1 tieA2 tieA3 tieA4 tieA5 tieA6 tieB1 tieB2 tieB3 tieB4
end Go.Proofs.YtbajncpfmemdgaaGreatDoor
