/- Proved: parts of the way: TieB. -/
import Derived.Test.YtbajncpfmemdgaaGreatDoorRows
import Derived.Test.YtbajncpfmemdgaaGreatDoorEvTieA
import Derived.LaidByTextLater
import Derived.SevenTiedAt
namespace Go.Proofs.YtbajncpfmemdgaaGreatDoor
open Go
theorem XY (os:Os) (tape:Tape):varsDone Tryz.prog 400 (varsId Tryz.prog) os tape=true:=by kernel_rfl
theorem XZ (os:Os) (tape:Tape):(DataW.laidRun Tryz.prog (varsWorld Tryz.prog 400 (varsId Tryz.prog) os tape).memory 8 (([("errors.errorType",(Rows.laid_errors_errorType:DataW Unit))].filter fun x=>x.2.handleName?.isNone).map (·.1))).map (·.1)=some ([("errors.errorType",(Rows.laid_errors_errorType:DataW Unit))].filter fun x=>x.2.handleName?.isNone):=by kernel_rfl
theorem X0 (os:Os) (tape:Tape):(DataW.laidRun Tryz.prog (varsWorld Tryz.prog 400 (varsId Tryz.prog) os tape).memory 8 (([("errors.errorType",(Rows.laid_errors_errorType:DataW Unit))].filter fun x=>x.2.handleName?.isNone).map (·.1))).map (fun x=>decide x.2.Nodup&&laidRowsB Tryz.prog (varsWorld Tryz.prog 400 (varsId Tryz.prog) os tape).memory x.2)=some true:=by kernel_rfl
theorem X1 (os:Os) (tape:Tape):([("errors.errorType",(Rows.laid_errors_errorType:DataW Unit))].filter fun x=>x.2.handleName?.isSome).all (handleAtB Tryz.prog (varsWorld Tryz.prog 400 (varsId Tryz.prog) os tape).memory)=true:=by kernel_rfl
theorem Wt:Tryz.prog.laidByTextLater [("errors.errorType",Rows.laid_errors_errorType)] [.handle] true:=
 Program.laidByTextLater_by_run_h 400 8 XR XS XT XU XV XW XY XZ X0 X1
end Go.Proofs.YtbajncpfmemdgaaGreatDoor
