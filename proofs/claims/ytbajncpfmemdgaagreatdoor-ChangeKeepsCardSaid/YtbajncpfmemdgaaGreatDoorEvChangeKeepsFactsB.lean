/- Proved: parts of the way: ChangeKeepsFactsB. -/
import Derived.Test.YtbajncpfmemdgaaGreatDoorRows
import Derived.ProofKit
import Derived.JoinedOf
namespace Go.Proofs.YtbajncpfmemdgaaGreatDoor
theorem uF:((Rows.changeKeepsRow.loops==(Tryz.f7.params.toList++Rows.changeKeepsSpec.plain.varTypes Tryz.checked.prog).any (Tryz.checked.prog.loopsFrom ·)))=true:=by kernel_rfl
theorem uG:((Rows.changeKeepsRow.wideKeys==(Tryz.f7.params.toList++Rows.changeKeepsSpec.plain.varTypes Tryz.checked.prog++Tryz.f7.resultTypes.toList).any (Tryz.checked.prog.wideKeysFrom ·)))=true:=by kernel_rfl
theorem uH:(Rows.changeKeepsSpec.vars.all (Tryz.checked.prog.varReadable ·))=true:=by kernel_rfl
theorem uI:(Tryz.f7.resultTypes.all (fun t=>Tryz.checked.prog.readableRec t&&decide (t<Tryz.checked.prog.types.size)))=true:=by kernel_rfl
theorem uJ:((Rows.changeKeepsRow.ifacesOut==Tryz.f7.resultTypes.toList.any (Tryz.checked.prog.ifacesRec ·)))=true:=by kernel_rfl
theorem uK:((Rows.changeKeepsRow.loopsOut==Tryz.f7.resultTypes.toList.any (Tryz.checked.prog.loopsFrom ·)))=true:=by kernel_rfl
theorem uL:((Rows.changeKeepsRow.plainKeys==Tryz.checked.prog.plainKeys))=true:=by kernel_rfl
theorem uM:(Rows.changeKeepsRow.shortTexts.isNone)=true:=by kernel_rfl
theorem uN:(Tryz.checked.prog.stopsHeard)=true:=by kernel_rfl
theorem uO:(Tryz.checked.prog.mayEnter)=true:=by kernel_rfl
theorem uP:((Rows.changeKeepsRow.lifted==Tryz.checked.prog.liftsFinal))=true:=by kernel_rfl
theorem uQ:((Tryz.checked.prog.make==some Rows.changeKeepsRow.make))=true:=by kernel_rfl
theorem uR:((Rows.changeKeepsRow.kinds==(if Rows.changeKeepsRow.domain.isEmpty then [] else Tryz.f7.params.toList.map fun t=>match Tryz.checked.prog.underlying t with | some (.int k)=>some k | _=>none)))=true:=by kernel_rfl
theorem uS:((Rows.changeKeepsRow.pinned==Rows.changeKeepsRow.pinnedBy))=true:=by kernel_rfl
theorem uT:((Rows.changeKeepsRow.veiled==(Tryz.f7.params.toList++Rows.changeKeepsSpec.plain.varTypes Tryz.checked.prog++Tryz.f7.resultTypes.toList).any (Tryz.checked.prog.veiledRec ·)))=true:=by kernel_rfl
theorem uU:(Rows.changeKeepsRow.veiledFits Tryz.checked.prog Tryz.f7.params.toList (Tryz.f7.params.toList++Rows.changeKeepsSpec.plain.varTypes Tryz.checked.prog++Tryz.f7.resultTypes.toList))=true:=by kernel_rfl
end Go.Proofs.YtbajncpfmemdgaaGreatDoor
