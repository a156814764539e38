/- Proved: parts of the way: ChangeKeepsFacts. -/
import Derived.Test.YtbajncpfmemdgaaGreatDoorRows
import Derived.ProofKit
import Derived.JoinedOf
namespace Go.Proofs.YtbajncpfmemdgaaGreatDoor
theorem vO:(Rows.changeKeepsRow.wf (OpenSpec.ofChange Rows.changeKeepsSpec))=true:=by kernel_rfl
theorem vP:(Tryz.f7.params.all (Tryz.checked.prog.readableRec ·))=true:=by kernel_rfl
theorem vQ:(namedTie Tryz.checked.prog Rows.changeKeepsRow.named Rows.changeKeepsSpec.vars)=true:=by kernel_rfl
theorem vR:((Rows.changeKeepsRow.stops==[]))=true:=by kernel_rfl
theorem vS:((Tryz.checked.prog.stops==[]))=true:=by kernel_rfl
theorem vT:((Rows.changeKeepsRow.knobs==[]))=true:=by kernel_rfl
theorem vU:((Tryz.checked.prog.stopKnobs==[]))=true:=by kernel_rfl
theorem vV:((Rows.changeKeepsRow.inPlace==Tryz.checked.prog.inPlace 7))=true:=by kernel_rfl
theorem uz:((Rows.changeKeepsRow.unfollowed==Tryz.checked.prog.unfollowed 7))=true:=by kernel_rfl
theorem uA:((Rows.changeKeepsRow.recurses==Tryz.checked.prog.recurses 7))=true:=by kernel_rfl
theorem uB:((Rows.changeKeepsRow.named==Tryz.checked.prog.varsNamed 7))=true:=by kernel_rfl
theorem uC:((Rows.changeKeepsRow.maps==(Tryz.f7.params.toList++Rows.changeKeepsSpec.plain.varTypes Tryz.checked.prog).any (Tryz.checked.prog.mapsRec ·)))=true:=by kernel_rfl
theorem uD:((Rows.changeKeepsRow.ifaces==(Tryz.f7.params.toList++Rows.changeKeepsSpec.plain.varTypes Tryz.checked.prog).any (Tryz.checked.prog.ifacesRec ·)))=true:=by kernel_rfl
theorem uE:((Rows.changeKeepsRow.mapsOut==Tryz.checked.prog.mapsAmong Tryz.f7.resultTypes.toList))=true:=by kernel_rfl
end Go.Proofs.YtbajncpfmemdgaaGreatDoor
