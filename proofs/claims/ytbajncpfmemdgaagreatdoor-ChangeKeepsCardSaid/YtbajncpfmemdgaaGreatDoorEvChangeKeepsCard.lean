/- Proved: parts of the way: ChangeKeepsCard. -/
import Derived.Test.YtbajncpfmemdgaaGreatDoorRows
import Derived.ProofKit
import Derived.JoinedOf
import Derived.SevenTiedAt
namespace Go.Proofs.YtbajncpfmemdgaaGreatDoor
theorem vW:Rows.changeKeepsRow.wfByText (OpenSpec.ofChange Rows.changeKeepsSpec)=true:=by kernel_rfl
theorem vX:Tryz.pinned.checked.prog.mainIs=some ((true,"d6c19baefbe47bb8997dd6bb8371383e2aad68d5bd29c1f2a28d74dab8262904").1,(true,"d6c19baefbe47bb8997dd6bb8371383e2aad68d5bd29c1f2a28d74dab8262904").2.toList):=by kernel_rfl
theorem vY:true=Tryz.pinned.checked.prog.looks []:=by kernel_rfl
theorem vZ:Tryz.prog.funcNamed "transom/transomlaw10.ChangeKeeps"=some 7:=by kernel_rfl
theorem sV:Tryz.prog.wantsStandIn 42=false:=by kernel_rfl
theorem sW:Tryz.prog.wantsStandIn 53=false:=by kernel_rfl
end Go.Proofs.YtbajncpfmemdgaaGreatDoor
