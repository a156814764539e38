/- The closed facts of the card 'ModelBounds', each apart. -/
import Derived.Test.YtbajncpfmemdgaaGreatDoorRows
import Derived.ProofKit
import Derived.JoinedOf
import Derived.SevenTiedAt
namespace Go.Proofs.YtbajncpfmemdgaaGreatDoor
theorem modelBounds_card1 : Rows.modelBoundsRow.wfByText (OpenSpec.ofChange Rows.modelBoundsSpec) = true := by kernel_rfl
theorem modelBounds_card2 : Tryz.pinned.checked.prog.mainIs = some ((true, "d6c19baefbe47bb8997dd6bb8371383e2aad68d5bd29c1f2a28d74dab8262904").1, (true, "d6c19baefbe47bb8997dd6bb8371383e2aad68d5bd29c1f2a28d74dab8262904").2.toList) := by kernel_rfl
theorem modelBounds_card3 : true = Tryz.pinned.checked.prog.looks [] := by kernel_rfl
theorem modelBounds_card5 : Tryz.prog.funcNamed "transom/transomlaw13.ModelBounds" = some 10 := by kernel_rfl
theorem modelBounds_stand51 : Tryz.prog.wantsStandIn 51 = false := by kernel_rfl
theorem modelBounds_stand71 : Tryz.prog.wantsStandIn 71 = false := by kernel_rfl
end Go.Proofs.YtbajncpfmemdgaaGreatDoor
