/- Proved: parts of the way: ChangeUndoesFacts. -/
import Derived.Test.YtbajncpfmemdgaaGreatDoorRows
import Derived.ProofKit
import Derived.JoinedOf
namespace Go.Proofs.YtbajncpfmemdgaaGreatDoor
theorem ux:(Rows.changeUndoesRow.wf (OpenSpec.ofChange Rows.changeUndoesSpec))=true:=by kernel_rfl
theorem uy:(Tryz.f8.params.all (Tryz.checked.prog.readableRec ·))=true:=by kernel_rfl
theorem uz:(namedTie Tryz.checked.prog Rows.changeUndoesRow.named Rows.changeUndoesSpec.vars)=true:=by kernel_rfl
theorem uA:((Rows.changeUndoesRow.stops==[]))=true:=by kernel_rfl
theorem uB:((Tryz.checked.prog.stops==[]))=true:=by kernel_rfl
theorem uC:((Rows.changeUndoesRow.knobs==[]))=true:=by kernel_rfl
theorem uD:((Tryz.checked.prog.stopKnobs==[]))=true:=by kernel_rfl
theorem uE:((Rows.changeUndoesRow.inPlace==Tryz.checked.prog.inPlace 8))=true:=by kernel_rfl
theorem sD:((Rows.changeUndoesRow.unfollowed==Tryz.checked.prog.unfollowed 8))=true:=by kernel_rfl
theorem sE:((Rows.changeUndoesRow.recurses==Tryz.checked.prog.recurses 8))=true:=by kernel_rfl
theorem sF:((Rows.changeUndoesRow.named==Tryz.checked.prog.varsNamed 8))=true:=by kernel_rfl
theorem sG:((Rows.changeUndoesRow.maps==(Tryz.f8.params.toList++Rows.changeUndoesSpec.plain.varTypes Tryz.checked.prog).any (Tryz.checked.prog.mapsRec ·)))=true:=by kernel_rfl
theorem sH:((Rows.changeUndoesRow.ifaces==(Tryz.f8.params.toList++Rows.changeUndoesSpec.plain.varTypes Tryz.checked.prog).any (Tryz.checked.prog.ifacesRec ·)))=true:=by kernel_rfl
theorem sI:((Rows.changeUndoesRow.mapsOut==Tryz.checked.prog.mapsAmong Tryz.f8.resultTypes.toList))=true:=by kernel_rfl
end Go.Proofs.YtbajncpfmemdgaaGreatDoor
