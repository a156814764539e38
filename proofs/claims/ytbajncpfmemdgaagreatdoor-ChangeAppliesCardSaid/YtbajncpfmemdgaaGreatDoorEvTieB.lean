/- Proved: parts of the way: TieB. -/
import Derived.Test.YtbajncpfmemdgaaGreatDoorRows
import Derived.Test.YtbajncpfmemdgaaGreatDoorEvTieA
import Derived.LaidByTextLater
import Derived.SevenTiedAt
namespace Go.Proofs.YtbajncpfmemdgaaGreatDoor
open Go
theorem adm (os:Os) (tape:Tape):varsDone Tryz.prog 400 (varsId Tryz.prog) os tape=true:=by kernel_rfl
theorem adn (os:Os) (tape:Tape):(DataW.laidRun Tryz.prog (varsWorld Tryz.prog 400 (varsId Tryz.prog) os tape).memory 8 (([("errors.errorType",(Rows.laid_errors_errorType:DataW Unit))].filter fun x=>x.2.handleName?.isNone).map (·.1))).map (·.1)=some ([("errors.errorType",(Rows.laid_errors_errorType:DataW Unit))].filter fun x=>x.2.handleName?.isNone):=by kernel_rfl
theorem ado (os:Os) (tape:Tape):(DataW.laidRun Tryz.prog (varsWorld Tryz.prog 400 (varsId Tryz.prog) os tape).memory 8 (([("errors.errorType",(Rows.laid_errors_errorType:DataW Unit))].filter fun x=>x.2.handleName?.isNone).map (·.1))).map (fun x=>decide x.2.Nodup&&laidRowsB Tryz.prog (varsWorld Tryz.prog 400 (varsId Tryz.prog) os tape).memory x.2)=some true:=by kernel_rfl
theorem adp (os:Os) (tape:Tape):([("errors.errorType",(Rows.laid_errors_errorType:DataW Unit))].filter fun x=>x.2.handleName?.isSome).all (handleAtB Tryz.prog (varsWorld Tryz.prog 400 (varsId Tryz.prog) os tape).memory)=true:=by kernel_rfl
theorem abE:Tryz.prog.laidByTextLater [("errors.errorType",Rows.laid_errors_errorType)] [.handle] true:=
 Program.laidByTextLater_by_run_h 400 8 adf adg adh adi adj adk adm adn ado adp
end Go.Proofs.YtbajncpfmemdgaaGreatDoor
