/- Proved: parts of the way: TieA. -/
import Derived.Test.YtbajncpfmemdgaaGreatDoorRows
import Derived.LaidByTextLater
import Derived.SevenTiedAt
namespace Go.Proofs.YtbajncpfmemdgaaGreatDoor
open Go
theorem XR:Tryz.prog.worded (varsWordLater true)=true:=by kernel_rfl
theorem XS:Tryz.prog.worded (varsWordLater !true)=false:=by kernel_rfl
theorem XT:Tryz.prog.worded rootWordLater=true:=by kernel_rfl
theorem XU:[("errors.errorType",(Rows.laid_errors_errorType:DataW Unit))].map (fun x=>Tryz.prog.kindOfLater x.1)=[LaidKind.handle].map some:=by kernel_rfl
theorem XV:(Tryz.prog.funcNamed "gosem.cut.vars").isSome=true:=by kernel_rfl
theorem XW:varsNamedLaterB Tryz.prog (varsId Tryz.prog) [("errors.errorType",Rows.laid_errors_errorType)]=true:=by kernel_rfl
theorem XX:Tryz.pinned.checked.prog.headLifts.contains "ownunsafe"=false:=by kernel_rfl
end Go.Proofs.YtbajncpfmemdgaaGreatDoor
