/- Proved: parts of the way: ChangeTargetsFacts. -/
import Derived.Test.YtbajncpfmemdgaaGreatDoorRows
import Derived.ProofKit
import Derived.JoinedOf
namespace Go.Proofs.YtbajncpfmemdgaaGreatDoor
theorem uP:(Rows.changeTargetsRow.wf (OpenSpec.ofChange Rows.changeTargetsSpec))=true:=by kernel_rfl
theorem uQ:(Tryz.f5.params.all (Tryz.checked.prog.readableRec ·))=true:=by kernel_rfl
theorem uR:(namedTie Tryz.checked.prog Rows.changeTargetsRow.named Rows.changeTargetsSpec.vars)=true:=by kernel_rfl
theorem uS:((Rows.changeTargetsRow.stops==[]))=true:=by kernel_rfl
theorem uT:((Tryz.checked.prog.stops==[]))=true:=by kernel_rfl
theorem uU:((Rows.changeTargetsRow.knobs==[]))=true:=by kernel_rfl
theorem uV:((Tryz.checked.prog.stopKnobs==[]))=true:=by kernel_rfl
theorem uW:((Rows.changeTargetsRow.inPlace==Tryz.checked.prog.inPlace 5))=true:=by kernel_rfl
theorem tX:((Rows.changeTargetsRow.unfollowed==Tryz.checked.prog.unfollowed 5))=true:=by kernel_rfl
theorem tY:((Rows.changeTargetsRow.recurses==Tryz.checked.prog.recurses 5))=true:=by kernel_rfl
theorem tZ:((Rows.changeTargetsRow.named==Tryz.checked.prog.varsNamed 5))=true:=by kernel_rfl
theorem ua:((Rows.changeTargetsRow.maps==(Tryz.f5.params.toList++Rows.changeTargetsSpec.plain.varTypes Tryz.checked.prog).any (Tryz.checked.prog.mapsRec ·)))=true:=by kernel_rfl
theorem ub:((Rows.changeTargetsRow.ifaces==(Tryz.f5.params.toList++Rows.changeTargetsSpec.plain.varTypes Tryz.checked.prog).any (Tryz.checked.prog.ifacesRec ·)))=true:=by kernel_rfl
theorem uc:((Rows.changeTargetsRow.mapsOut==Tryz.checked.prog.mapsAmong Tryz.f5.resultTypes.toList))=true:=by kernel_rfl
end Go.Proofs.YtbajncpfmemdgaaGreatDoor
