/- The closed facts of the row 'EngineNone', each apart. -/
import Derived.Test.YtkopocjaofejgaaGreatDoorRows
import Derived.ProofKit
import Derived.JoinedOf
namespace Go.Proofs.YtkopocjaofejgaaGreatDoor
theorem engineNone_fact16 : ((Rows.engineNoneRow.loops == (Tryz.f6.params.toList ++ Rows.engineNoneSpec.plain.varTypes Tryz.checked.prog).any (Tryz.checked.prog.loopsFrom ·))) = true := by kernel_rfl
theorem engineNone_fact17 : ((Rows.engineNoneRow.wideKeys == (Tryz.f6.params.toList ++ Rows.engineNoneSpec.plain.varTypes Tryz.checked.prog ++ Tryz.f6.resultTypes.toList).any (Tryz.checked.prog.wideKeysFrom ·))) = true := by kernel_rfl
theorem engineNone_fact18 : (Rows.engineNoneSpec.vars.all (Tryz.checked.prog.varReadable ·)) = true := by kernel_rfl
theorem engineNone_fact19 : (Tryz.f6.resultTypes.all (fun t => Tryz.checked.prog.readableRec t && decide (t < Tryz.checked.prog.types.size))) = true := by kernel_rfl
theorem engineNone_fact20 : ((Rows.engineNoneRow.ifacesOut == Tryz.f6.resultTypes.toList.any (Tryz.checked.prog.ifacesRec ·))) = true := by kernel_rfl
theorem engineNone_fact21 : ((Rows.engineNoneRow.loopsOut == Tryz.f6.resultTypes.toList.any (Tryz.checked.prog.loopsFrom ·))) = true := by kernel_rfl
theorem engineNone_fact22 : ((Rows.engineNoneRow.plainKeys == Tryz.checked.prog.plainKeys)) = true := by kernel_rfl
theorem engineNone_fact23 : (Rows.engineNoneRow.shortTexts.isNone) = true := by kernel_rfl
theorem engineNone_fact24 : (Tryz.checked.prog.stopsHeard) = true := by kernel_rfl
theorem engineNone_fact25 : (Tryz.checked.prog.mayEnter) = true := by kernel_rfl
theorem engineNone_fact26 : ((Rows.engineNoneRow.lifted == Tryz.checked.prog.liftsFinal)) = true := by kernel_rfl
theorem engineNone_fact27 : ((Tryz.checked.prog.make == some Rows.engineNoneRow.make)) = true := by kernel_rfl
theorem engineNone_fact28 : ((Rows.engineNoneRow.kinds == (if Rows.engineNoneRow.domain.isEmpty then [] else Tryz.f6.params.toList.map fun t => match Tryz.checked.prog.underlying t with | some (.int k) => some k | _ => none))) = true := by kernel_rfl
theorem engineNone_fact29 : ((Rows.engineNoneRow.pinned == Rows.engineNoneRow.pinnedBy)) = true := by kernel_rfl
theorem engineNone_fact30 : ((Rows.engineNoneRow.veiled == (Tryz.f6.params.toList ++ Rows.engineNoneSpec.plain.varTypes Tryz.checked.prog ++ Tryz.f6.resultTypes.toList).any (Tryz.checked.prog.veiledRec ·))) = true := by kernel_rfl
theorem engineNone_fact31 : (Rows.engineNoneRow.veiledFits Tryz.checked.prog Tryz.f6.params.toList (Tryz.f6.params.toList ++ Rows.engineNoneSpec.plain.varTypes Tryz.checked.prog ++ Tryz.f6.resultTypes.toList)) = true := by kernel_rfl
end Go.Proofs.YtkopocjaofejgaaGreatDoor
