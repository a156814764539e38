/- The closed facts of the row 'MigratorNone', each apart. -/
import Derived.Test.YtkopocjaofejgaaGreatDoorRows
import Derived.ProofKit
import Derived.JoinedOf
namespace Go.Proofs.YtkopocjaofejgaaGreatDoor
theorem migratorNone_fact16 : ((Rows.migratorNoneRow.loops == (Tryz.f3.params.toList ++ Rows.migratorNoneSpec.plain.varTypes Tryz.checked.prog).any (Tryz.checked.prog.loopsFrom ·))) = true := by kernel_rfl
theorem migratorNone_fact17 : ((Rows.migratorNoneRow.wideKeys == (Tryz.f3.params.toList ++ Rows.migratorNoneSpec.plain.varTypes Tryz.checked.prog ++ Tryz.f3.resultTypes.toList).any (Tryz.checked.prog.wideKeysFrom ·))) = true := by kernel_rfl
theorem migratorNone_fact18 : (Rows.migratorNoneSpec.vars.all (Tryz.checked.prog.varReadable ·)) = true := by kernel_rfl
theorem migratorNone_fact19 : (Tryz.f3.resultTypes.all (fun t => Tryz.checked.prog.readableRec t && decide (t < Tryz.checked.prog.types.size))) = true := by kernel_rfl
theorem migratorNone_fact20 : ((Rows.migratorNoneRow.ifacesOut == Tryz.f3.resultTypes.toList.any (Tryz.checked.prog.ifacesRec ·))) = true := by kernel_rfl
theorem migratorNone_fact21 : ((Rows.migratorNoneRow.loopsOut == Tryz.f3.resultTypes.toList.any (Tryz.checked.prog.loopsFrom ·))) = true := by kernel_rfl
theorem migratorNone_fact22 : ((Rows.migratorNoneRow.plainKeys == Tryz.checked.prog.plainKeys)) = true := by kernel_rfl
theorem migratorNone_fact23 : (Rows.migratorNoneRow.shortTexts.isNone) = true := by kernel_rfl
theorem migratorNone_fact24 : (Tryz.checked.prog.stopsHeard) = true := by kernel_rfl
theorem migratorNone_fact25 : (Tryz.checked.prog.mayEnter) = true := by kernel_rfl
theorem migratorNone_fact26 : ((Rows.migratorNoneRow.lifted == Tryz.checked.prog.liftsFinal)) = true := by kernel_rfl
theorem migratorNone_fact27 : ((Tryz.checked.prog.make == some Rows.migratorNoneRow.make)) = true := by kernel_rfl
theorem migratorNone_fact28 : ((Rows.migratorNoneRow.kinds == (if Rows.migratorNoneRow.domain.isEmpty then [] else Tryz.f3.params.toList.map fun t => match Tryz.checked.prog.underlying t with | some (.int k) => some k | _ => none))) = true := by kernel_rfl
theorem migratorNone_fact29 : ((Rows.migratorNoneRow.pinned == Rows.migratorNoneRow.pinnedBy)) = true := by kernel_rfl
theorem migratorNone_fact30 : ((Rows.migratorNoneRow.veiled == (Tryz.f3.params.toList ++ Rows.migratorNoneSpec.plain.varTypes Tryz.checked.prog ++ Tryz.f3.resultTypes.toList).any (Tryz.checked.prog.veiledRec ·))) = true := by kernel_rfl
theorem migratorNone_fact31 : (Rows.migratorNoneRow.veiledFits Tryz.checked.prog Tryz.f3.params.toList (Tryz.f3.params.toList ++ Rows.migratorNoneSpec.plain.varTypes Tryz.checked.prog ++ Tryz.f3.resultTypes.toList)) = true := by kernel_rfl
end Go.Proofs.YtkopocjaofejgaaGreatDoor
