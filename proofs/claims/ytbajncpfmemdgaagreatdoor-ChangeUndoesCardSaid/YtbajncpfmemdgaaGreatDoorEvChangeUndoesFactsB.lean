/- Proved: parts of the way: ChangeUndoesFactsB. -/
import Derived.Test.YtbajncpfmemdgaaGreatDoorRows
import Derived.ProofKit
import Derived.JoinedOf
namespace Go.Proofs.YtbajncpfmemdgaaGreatDoor
theorem sJ:((Rows.changeUndoesRow.loops==(Tryz.f8.params.toList++Rows.changeUndoesSpec.plain.varTypes Tryz.checked.prog).any (Tryz.checked.prog.loopsFrom ·)))=true:=by kernel_rfl
theorem sK:((Rows.changeUndoesRow.wideKeys==(Tryz.f8.params.toList++Rows.changeUndoesSpec.plain.varTypes Tryz.checked.prog++Tryz.f8.resultTypes.toList).any (Tryz.checked.prog.wideKeysFrom ·)))=true:=by kernel_rfl
theorem sL:(Rows.changeUndoesSpec.vars.all (Tryz.checked.prog.varReadable ·))=true:=by kernel_rfl
theorem sM:(Tryz.f8.resultTypes.all (fun t=>Tryz.checked.prog.readableRec t&&decide (t<Tryz.checked.prog.types.size)))=true:=by kernel_rfl
theorem sN:((Rows.changeUndoesRow.ifacesOut==Tryz.f8.resultTypes.toList.any (Tryz.checked.prog.ifacesRec ·)))=true:=by kernel_rfl
theorem sO:((Rows.changeUndoesRow.loopsOut==Tryz.f8.resultTypes.toList.any (Tryz.checked.prog.loopsFrom ·)))=true:=by kernel_rfl
theorem sP:((Rows.changeUndoesRow.plainKeys==Tryz.checked.prog.plainKeys))=true:=by kernel_rfl
theorem sQ:(Rows.changeUndoesRow.shortTexts.isNone)=true:=by kernel_rfl
theorem sR:(Tryz.checked.prog.stopsHeard)=true:=by kernel_rfl
theorem sS:(Tryz.checked.prog.mayEnter)=true:=by kernel_rfl
theorem sT:((Rows.changeUndoesRow.lifted==Tryz.checked.prog.liftsFinal))=true:=by kernel_rfl
theorem sU:((Tryz.checked.prog.make==some Rows.changeUndoesRow.make))=true:=by kernel_rfl
theorem sV:((Rows.changeUndoesRow.kinds==(if Rows.changeUndoesRow.domain.isEmpty then [] else Tryz.f8.params.toList.map fun t=>match Tryz.checked.prog.underlying t with | some (.int k)=>some k | _=>none)))=true:=by kernel_rfl
theorem sW:((Rows.changeUndoesRow.pinned==Rows.changeUndoesRow.pinnedBy))=true:=by kernel_rfl
theorem sX:((Rows.changeUndoesRow.veiled==(Tryz.f8.params.toList++Rows.changeUndoesSpec.plain.varTypes Tryz.checked.prog++Tryz.f8.resultTypes.toList).any (Tryz.checked.prog.veiledRec ·)))=true:=by kernel_rfl
theorem sY:(Rows.changeUndoesRow.veiledFits Tryz.checked.prog Tryz.f8.params.toList (Tryz.f8.params.toList++Rows.changeUndoesSpec.plain.varTypes Tryz.checked.prog++Tryz.f8.resultTypes.toList))=true:=by kernel_rfl
end Go.Proofs.YtbajncpfmemdgaaGreatDoor
