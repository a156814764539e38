/- Proved: parts of the way: ChangeTargetsCard. -/
import Derived.Test.YtbajncpfmemdgaaGreatDoorRows
import Derived.ProofKit
import Derived.JoinedOf
import Derived.SevenTiedAt
namespace Go.Proofs.YtbajncpfmemdgaaGreatDoor
theorem uX:Rows.changeTargetsRow.wfByText (OpenSpec.ofChange Rows.changeTargetsSpec)=true:=by kernel_rfl
theorem uY:Tryz.pinned.checked.prog.mainIs=some ((true,"d6c19baefbe47bb8997dd6bb8371383e2aad68d5bd29c1f2a28d74dab8262904").1,(true,"d6c19baefbe47bb8997dd6bb8371383e2aad68d5bd29c1f2a28d74dab8262904").2.toList):=by kernel_rfl
theorem uZ:true=Tryz.pinned.checked.prog.looks []:=by kernel_rfl
theorem u1:Tryz.prog.funcNamed "transom/transomlaw10.ChangeTargets"=some 5:=by kernel_rfl
theorem sD:Tryz.prog.wantsStandIn 42=false:=by kernel_rfl
theorem sE:Tryz.prog.wantsStandIn 53=false:=by kernel_rfl
end Go.Proofs.YtbajncpfmemdgaaGreatDoor
