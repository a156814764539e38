/- Proved: parts of the way: ChangeUndoesCard. -/
import Derived.Test.YtbajncpfmemdgaaGreatDoorRows
import Derived.ProofKit
import Derived.JoinedOf
import Derived.SevenTiedAt
namespace Go.Proofs.YtbajncpfmemdgaaGreatDoor
theorem uF:Rows.changeUndoesRow.wfByText (OpenSpec.ofChange Rows.changeUndoesSpec)=true:=by kernel_rfl
theorem uG:Tryz.pinned.checked.prog.mainIs=some ((true,"d6c19baefbe47bb8997dd6bb8371383e2aad68d5bd29c1f2a28d74dab8262904").1,(true,"d6c19baefbe47bb8997dd6bb8371383e2aad68d5bd29c1f2a28d74dab8262904").2.toList):=by kernel_rfl
theorem uH:true=Tryz.pinned.checked.prog.looks []:=by kernel_rfl
theorem uI:Tryz.prog.funcNamed "transom/transomlaw10.ChangeUndoes"=some 8:=by kernel_rfl
theorem so:Tryz.prog.wantsStandIn 42=false:=by kernel_rfl
theorem sq:Tryz.prog.wantsStandIn 53=false:=by kernel_rfl
end Go.Proofs.YtbajncpfmemdgaaGreatDoor
