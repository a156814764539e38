/- Proved: parts of the way: ChangeAppliesFactsB. -/
import Derived.Test.YtbajncpfmemdgaaGreatDoorRows
import Derived.ProofKit
import Derived.JoinedOf
namespace Go.Proofs.YtbajncpfmemdgaaGreatDoor
theorem tD:((Rows.changeAppliesRow.loops==(Tryz.f6.params.toList++Rows.changeAppliesSpec.plain.varTypes Tryz.checked.prog).any (Tryz.checked.prog.loopsFrom ·)))=true:=by kernel_rfl
theorem tE:((Rows.changeAppliesRow.wideKeys==(Tryz.f6.params.toList++Rows.changeAppliesSpec.plain.varTypes Tryz.checked.prog++Tryz.f6.resultTypes.toList).any (Tryz.checked.prog.wideKeysFrom ·)))=true:=by kernel_rfl
theorem tF:(Rows.changeAppliesSpec.vars.all (Tryz.checked.prog.varReadable ·))=true:=by kernel_rfl
theorem tG:(Tryz.f6.resultTypes.all (fun t=>Tryz.checked.prog.readableRec t&&decide (t<Tryz.checked.prog.types.size)))=true:=by kernel_rfl
theorem tH:((Rows.changeAppliesRow.ifacesOut==Tryz.f6.resultTypes.toList.any (Tryz.checked.prog.ifacesRec ·)))=true:=by kernel_rfl
theorem tI:((Rows.changeAppliesRow.loopsOut==Tryz.f6.resultTypes.toList.any (Tryz.checked.prog.loopsFrom ·)))=true:=by kernel_rfl
theorem tJ:((Rows.changeAppliesRow.plainKeys==Tryz.checked.prog.plainKeys))=true:=by kernel_rfl
theorem tK:(Rows.changeAppliesRow.shortTexts.isNone)=true:=by kernel_rfl
theorem tL:(Tryz.checked.prog.stopsHeard)=true:=by kernel_rfl
theorem tM:(Tryz.checked.prog.mayEnter)=true:=by kernel_rfl
theorem tN:((Rows.changeAppliesRow.lifted==Tryz.checked.prog.liftsFinal))=true:=by kernel_rfl
theorem tP:((Tryz.checked.prog.make==some Rows.changeAppliesRow.make))=true:=by kernel_rfl
theorem tQ:((Rows.changeAppliesRow.kinds==(if Rows.changeAppliesRow.domain.isEmpty then [] else Tryz.f6.params.toList.map fun t=>match Tryz.checked.prog.underlying t with | some (.int k)=>some k | _=>none)))=true:=by kernel_rfl
theorem tR:((Rows.changeAppliesRow.pinned==Rows.changeAppliesRow.pinnedBy))=true:=by kernel_rfl
theorem tS:((Rows.changeAppliesRow.veiled==(Tryz.f6.params.toList++Rows.changeAppliesSpec.plain.varTypes Tryz.checked.prog++Tryz.f6.resultTypes.toList).any (Tryz.checked.prog.veiledRec ·)))=true:=by kernel_rfl
theorem tT:(Rows.changeAppliesRow.veiledFits Tryz.checked.prog Tryz.f6.params.toList (Tryz.f6.params.toList++Rows.changeAppliesSpec.plain.varTypes Tryz.checked.prog++Tryz.f6.resultTypes.toList))=true:=by kernel_rfl
end Go.Proofs.YtbajncpfmemdgaaGreatDoor
