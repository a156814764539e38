/- The closed facts of the card 'EngineNone', each apart. -/
import Derived.Test.YtkopocjaofejgaaGreatDoorRows
import Derived.ProofKit
import Derived.JoinedOf
import Derived.SevenTiedAt
namespace Go.Proofs.YtkopocjaofejgaaGreatDoor
theorem engineNone_card1 : Rows.engineNoneRow.wfByText (OpenSpec.ofChange Rows.engineNoneSpec) = true := by kernel_rfl
theorem engineNone_card2 : Tryz.pinned.checked.prog.mainIs = some ((true, "68d50d6a516db3e82c0563c71a9b42c2d8040881885d4ae4f425877f48707d24").1, (true, "68d50d6a516db3e82c0563c71a9b42c2d8040881885d4ae4f425877f48707d24").2.toList) := by kernel_rfl
theorem engineNone_card3 : true = Tryz.pinned.checked.prog.looks [] := by kernel_rfl
theorem engineNone_card5 : Tryz.prog.funcNamed "transom/transomlaw35.EngineNone" = some 6 := by kernel_rfl
theorem engineNone_stand88 : Tryz.prog.wantsStandIn 88 = false := by kernel_rfl
end Go.Proofs.YtkopocjaofejgaaGreatDoor
