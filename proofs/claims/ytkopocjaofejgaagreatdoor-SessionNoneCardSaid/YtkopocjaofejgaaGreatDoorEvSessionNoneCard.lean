/- The closed facts of the card 'SessionNone', each apart. -/
import Derived.Test.YtkopocjaofejgaaGreatDoorRows
import Derived.ProofKit
import Derived.JoinedOf
import Derived.SevenTiedAt
namespace Go.Proofs.YtkopocjaofejgaaGreatDoor
theorem sessionNone_card1 : Rows.sessionNoneRow.wfByText (OpenSpec.ofChange Rows.sessionNoneSpec) = true := by kernel_rfl
theorem sessionNone_card2 : Tryz.pinned.checked.prog.mainIs = some ((true, "68d50d6a516db3e82c0563c71a9b42c2d8040881885d4ae4f425877f48707d24").1, (true, "68d50d6a516db3e82c0563c71a9b42c2d8040881885d4ae4f425877f48707d24").2.toList) := by kernel_rfl
theorem sessionNone_card3 : true = Tryz.pinned.checked.prog.looks [] := by kernel_rfl
theorem sessionNone_card5 : Tryz.prog.funcNamed "transom/transomlaw32.SessionNone" = some 5 := by kernel_rfl
theorem sessionNone_stand23 : Tryz.prog.wantsStandIn 23 = false := by kernel_rfl
theorem sessionNone_stand72 : Tryz.prog.wantsStandIn 72 = false := by kernel_rfl
end Go.Proofs.YtkopocjaofejgaaGreatDoor
