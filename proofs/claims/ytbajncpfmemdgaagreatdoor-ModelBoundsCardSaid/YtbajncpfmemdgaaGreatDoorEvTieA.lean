/- The program's tie, its closed facts each apart: what start-up lays for the variable that the rows list. First part. -/
import Derived.Test.YtbajncpfmemdgaaGreatDoorRows
import Derived.LaidByTextLater
import Derived.SevenTiedAt
namespace Go.Proofs.YtbajncpfmemdgaaGreatDoor
open Go
theorem tieA1 : Tryz.prog.worded (varsWordLater true) = true := by kernel_rfl
theorem tieA2 : Tryz.prog.worded (varsWordLater !true) = false := by kernel_rfl
theorem tieA3 : Tryz.prog.worded rootWordLater = true := by kernel_rfl
theorem tieA4 : [("errors.errorType", (Rows.laid_errors_errorType : DataW Unit))].map (fun x => Tryz.prog.kindOfLater x.1) = [LaidKind.handle].map some := by kernel_rfl
theorem tieA5 : (Tryz.prog.funcNamed "gosem.cut.vars").isSome = true := by kernel_rfl
theorem tieA6 : varsNamedLaterB Tryz.prog (varsId Tryz.prog) [("errors.errorType", Rows.laid_errors_errorType)] = true := by kernel_rfl
theorem tieA7 : Tryz.pinned.checked.prog.headLifts.contains "ownunsafe" = false := by kernel_rfl
end Go.Proofs.YtbajncpfmemdgaaGreatDoor
