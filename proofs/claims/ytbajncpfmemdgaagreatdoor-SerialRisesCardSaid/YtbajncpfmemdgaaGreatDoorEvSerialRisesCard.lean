/- The closed facts of the card 'SerialRises', each apart. -/
import Derived.Test.YtbajncpfmemdgaaGreatDoorRows
import Derived.ProofKit
import Derived.JoinedOf
import Derived.SevenTiedAt
namespace Go.Proofs.YtbajncpfmemdgaaGreatDoor
theorem serialRises_card1 : Rows.serialRisesRow.wfByText (OpenSpec.ofChange Rows.serialRisesSpec) = true := by kernel_rfl
theorem serialRises_card2 : Tryz.pinned.checked.prog.mainIs = some ((true, "d6c19baefbe47bb8997dd6bb8371383e2aad68d5bd29c1f2a28d74dab8262904").1, (true, "d6c19baefbe47bb8997dd6bb8371383e2aad68d5bd29c1f2a28d74dab8262904").2.toList) := by kernel_rfl
theorem serialRises_card3 : true = Tryz.pinned.checked.prog.looks [] := by kernel_rfl
theorem serialRises_card5 : Tryz.prog.funcNamed "transom/transomlaw38.SerialRises" = some 3 := by kernel_rfl
theorem serialRises_stand22 : Tryz.prog.wantsStandIn 22 = false := by kernel_rfl
end Go.Proofs.YtbajncpfmemdgaaGreatDoor
