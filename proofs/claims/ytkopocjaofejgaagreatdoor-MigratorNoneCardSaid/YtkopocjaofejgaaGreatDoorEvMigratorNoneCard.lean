/- The closed facts of the card 'MigratorNone', each apart. -/
import Derived.Test.YtkopocjaofejgaaGreatDoorRows
import Derived.ProofKit
import Derived.JoinedOf
import Derived.SevenTiedAt
namespace Go.Proofs.YtkopocjaofejgaaGreatDoor
theorem migratorNone_card1 : Rows.migratorNoneRow.wfByText (OpenSpec.ofChange Rows.migratorNoneSpec) = true := by kernel_rfl
theorem migratorNone_card2 : Tryz.pinned.checked.prog.mainIs = some ((true, "68d50d6a516db3e82c0563c71a9b42c2d8040881885d4ae4f425877f48707d24").1, (true, "68d50d6a516db3e82c0563c71a9b42c2d8040881885d4ae4f425877f48707d24").2.toList) := by kernel_rfl
theorem migratorNone_card3 : true = Tryz.pinned.checked.prog.looks [] := by kernel_rfl
theorem migratorNone_card5 : Tryz.prog.funcNamed "transom/transomlaw33.MigratorNone" = some 3 := by kernel_rfl
theorem migratorNone_stand23 : Tryz.prog.wantsStandIn 23 = false := by kernel_rfl
theorem migratorNone_stand3 : Tryz.prog.wantsStandIn 3 = false := by kernel_rfl
end Go.Proofs.YtkopocjaofejgaaGreatDoor
