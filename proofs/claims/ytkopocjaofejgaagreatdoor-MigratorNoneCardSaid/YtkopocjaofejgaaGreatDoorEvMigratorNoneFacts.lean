/- The closed facts of the row 'MigratorNone', each apart. -/
import Derived.Test.YtkopocjaofejgaaGreatDoorRows
import Derived.ProofKit
import Derived.JoinedOf
namespace Go.Proofs.YtkopocjaofejgaaGreatDoor
theorem migratorNone_fact0 : (Rows.migratorNoneRow.wf (OpenSpec.ofChange Rows.migratorNoneSpec)) = true := by kernel_rfl
theorem migratorNone_fact3 : (Tryz.f3.params.all (Tryz.checked.prog.readableRec ·)) = true := by kernel_rfl
theorem migratorNone_fact4 : (namedTie Tryz.checked.prog Rows.migratorNoneRow.named Rows.migratorNoneSpec.vars) = true := by kernel_rfl
theorem migratorNone_fact5 : ((Rows.migratorNoneRow.stops == [])) = true := by kernel_rfl
theorem migratorNone_fact6 : ((Tryz.checked.prog.stops == [])) = true := by kernel_rfl
theorem migratorNone_fact7 : ((Rows.migratorNoneRow.knobs == [])) = true := by kernel_rfl
theorem migratorNone_fact8 : ((Tryz.checked.prog.stopKnobs == [])) = true := by kernel_rfl
theorem migratorNone_fact9 : ((Rows.migratorNoneRow.inPlace == Tryz.checked.prog.inPlace 3)) = true := by kernel_rfl
theorem migratorNone_fact10 : ((Rows.migratorNoneRow.unfollowed == Tryz.checked.prog.unfollowed 3)) = true := by kernel_rfl
theorem migratorNone_fact11 : ((Rows.migratorNoneRow.recurses == Tryz.checked.prog.recurses 3)) = true := by kernel_rfl
theorem migratorNone_fact12 : ((Rows.migratorNoneRow.named == Tryz.checked.prog.varsNamed 3)) = true := by kernel_rfl
theorem migratorNone_fact13 : ((Rows.migratorNoneRow.maps == (Tryz.f3.params.toList ++ Rows.migratorNoneSpec.plain.varTypes Tryz.checked.prog).any (Tryz.checked.prog.mapsRec ·))) = true := by kernel_rfl
theorem migratorNone_fact14 : ((Rows.migratorNoneRow.ifaces == (Tryz.f3.params.toList ++ Rows.migratorNoneSpec.plain.varTypes Tryz.checked.prog).any (Tryz.checked.prog.ifacesRec ·))) = true := by kernel_rfl
theorem migratorNone_fact15 : ((Rows.migratorNoneRow.mapsOut == Tryz.checked.prog.mapsAmong Tryz.f3.resultTypes.toList)) = true := by kernel_rfl
end Go.Proofs.YtkopocjaofejgaaGreatDoor
