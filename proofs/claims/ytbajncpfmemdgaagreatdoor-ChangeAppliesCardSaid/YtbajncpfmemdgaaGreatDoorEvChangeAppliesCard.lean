/- Proved: parts of the way: ChangeAppliesCard. -/
import Derived.Test.YtbajncpfmemdgaaGreatDoorRows
import Derived.ProofKit
import Derived.JoinedOf
import Derived.SevenTiedAt
namespace Go.Proofs.YtbajncpfmemdgaaGreatDoor
theorem uv:Rows.changeAppliesRow.wfByText (OpenSpec.ofChange Rows.changeAppliesSpec)=true:=by kernel_rfl
theorem uw:Tryz.pinned.checked.prog.mainIs=some ((true,"d6c19baefbe47bb8997dd6bb8371383e2aad68d5bd29c1f2a28d74dab8262904").1,(true,"d6c19baefbe47bb8997dd6bb8371383e2aad68d5bd29c1f2a28d74dab8262904").2.toList):=by kernel_rfl
theorem ux:true=Tryz.pinned.checked.prog.looks []:=by kernel_rfl
theorem uy:Tryz.prog.funcNamed "transom/transomlaw10.ChangeApplies"=some 6:=by kernel_rfl
theorem rX:Tryz.prog.wantsStandIn 42=false:=by kernel_rfl
theorem rY:Tryz.prog.wantsStandIn 53=false:=by kernel_rfl
theorem tU:Tryz.prog.wantsStandIn 9=false:=by kernel_rfl
end Go.Proofs.YtbajncpfmemdgaaGreatDoor
