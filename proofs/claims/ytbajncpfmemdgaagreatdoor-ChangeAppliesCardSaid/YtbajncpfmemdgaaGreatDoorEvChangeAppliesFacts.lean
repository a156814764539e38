/- Proved: parts of the way: ChangeAppliesFacts. -/
import Derived.Test.YtbajncpfmemdgaaGreatDoorRows
import Derived.ProofKit
import Derived.JoinedOf
namespace Go.Proofs.YtbajncpfmemdgaaGreatDoor
theorem ui:(Rows.changeAppliesRow.wf (OpenSpec.ofChange Rows.changeAppliesSpec))=true:=by kernel_rfl
theorem uj:(Tryz.f6.params.all (Tryz.checked.prog.readableRec ·))=true:=by kernel_rfl
theorem uk:(namedTie Tryz.checked.prog Rows.changeAppliesRow.named Rows.changeAppliesSpec.vars)=true:=by kernel_rfl
theorem um:((Rows.changeAppliesRow.stops==[]))=true:=by kernel_rfl
theorem uo:((Tryz.checked.prog.stops==[]))=true:=by kernel_rfl
theorem uq:((Rows.changeAppliesRow.knobs==[]))=true:=by kernel_rfl
theorem ur:((Tryz.checked.prog.stopKnobs==[]))=true:=by kernel_rfl
theorem uu:((Rows.changeAppliesRow.inPlace==Tryz.checked.prog.inPlace 6))=true:=by kernel_rfl
theorem tu:((Rows.changeAppliesRow.unfollowed==Tryz.checked.prog.unfollowed 6))=true:=by kernel_rfl
theorem tw:((Rows.changeAppliesRow.recurses==Tryz.checked.prog.recurses 6))=true:=by kernel_rfl
theorem tz:((Rows.changeAppliesRow.named==Tryz.checked.prog.varsNamed 6))=true:=by kernel_rfl
theorem tA:((Rows.changeAppliesRow.maps==(Tryz.f6.params.toList++Rows.changeAppliesSpec.plain.varTypes Tryz.checked.prog).any (Tryz.checked.prog.mapsRec ·)))=true:=by kernel_rfl
theorem tB:((Rows.changeAppliesRow.ifaces==(Tryz.f6.params.toList++Rows.changeAppliesSpec.plain.varTypes Tryz.checked.prog).any (Tryz.checked.prog.ifacesRec ·)))=true:=by kernel_rfl
theorem tC:((Rows.changeAppliesRow.mapsOut==Tryz.checked.prog.mapsAmong Tryz.f6.resultTypes.toList))=true:=by kernel_rfl
end Go.Proofs.YtbajncpfmemdgaaGreatDoor
