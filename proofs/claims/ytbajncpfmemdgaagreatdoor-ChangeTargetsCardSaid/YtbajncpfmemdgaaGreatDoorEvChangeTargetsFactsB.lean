/- Proved: parts of the way: ChangeTargetsFactsB. -/
import Derived.Test.YtbajncpfmemdgaaGreatDoorRows
import Derived.ProofKit
import Derived.JoinedOf
namespace Go.Proofs.YtbajncpfmemdgaaGreatDoor
theorem ud:((Rows.changeTargetsRow.loops==(Tryz.f5.params.toList++Rows.changeTargetsSpec.plain.varTypes Tryz.checked.prog).any (Tryz.checked.prog.loopsFrom ·)))=true:=by kernel_rfl
theorem ue:((Rows.changeTargetsRow.wideKeys==(Tryz.f5.params.toList++Rows.changeTargetsSpec.plain.varTypes Tryz.checked.prog++Tryz.f5.resultTypes.toList).any (Tryz.checked.prog.wideKeysFrom ·)))=true:=by kernel_rfl
theorem uf:(Rows.changeTargetsSpec.vars.all (Tryz.checked.prog.varReadable ·))=true:=by kernel_rfl
theorem ug:(Tryz.f5.resultTypes.all (fun t=>Tryz.checked.prog.readableRec t&&decide (t<Tryz.checked.prog.types.size)))=true:=by kernel_rfl
theorem uh:((Rows.changeTargetsRow.ifacesOut==Tryz.f5.resultTypes.toList.any (Tryz.checked.prog.ifacesRec ·)))=true:=by kernel_rfl
theorem ui:((Rows.changeTargetsRow.loopsOut==Tryz.f5.resultTypes.toList.any (Tryz.checked.prog.loopsFrom ·)))=true:=by kernel_rfl
theorem uj:((Rows.changeTargetsRow.plainKeys==Tryz.checked.prog.plainKeys))=true:=by kernel_rfl
theorem uk:(Rows.changeTargetsRow.shortTexts.isNone)=true:=by kernel_rfl
theorem um:(Tryz.checked.prog.stopsHeard)=true:=by kernel_rfl
theorem uo:(Tryz.checked.prog.mayEnter)=true:=by kernel_rfl
theorem uq:((Rows.changeTargetsRow.lifted==Tryz.checked.prog.liftsFinal))=true:=by kernel_rfl
theorem ur:((Tryz.checked.prog.make==some Rows.changeTargetsRow.make))=true:=by kernel_rfl
theorem uu:((Rows.changeTargetsRow.kinds==(if Rows.changeTargetsRow.domain.isEmpty then [] else Tryz.f5.params.toList.map fun t=>match Tryz.checked.prog.underlying t with | some (.int k)=>some k | _=>none)))=true:=by kernel_rfl
theorem uv:((Rows.changeTargetsRow.pinned==Rows.changeTargetsRow.pinnedBy))=true:=by kernel_rfl
theorem uw:((Rows.changeTargetsRow.veiled==(Tryz.f5.params.toList++Rows.changeTargetsSpec.plain.varTypes Tryz.checked.prog++Tryz.f5.resultTypes.toList).any (Tryz.checked.prog.veiledRec ·)))=true:=by kernel_rfl
theorem ux:(Rows.changeTargetsRow.veiledFits Tryz.checked.prog Tryz.f5.params.toList (Tryz.f5.params.toList++Rows.changeTargetsSpec.plain.varTypes Tryz.checked.prog++Tryz.f5.resultTypes.toList))=true:=by kernel_rfl
end Go.Proofs.YtbajncpfmemdgaaGreatDoor
